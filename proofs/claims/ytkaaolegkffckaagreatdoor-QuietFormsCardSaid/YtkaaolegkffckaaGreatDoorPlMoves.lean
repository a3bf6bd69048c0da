/- The moves of a plain store: a block is made, written anew, moved, frozen. -/
import Derived.Test.YtkaaolegkffckaaGreatDoorPlRel
set_option linter.unusedVariables false
set_option linter.unusedSimpArgs false
namespace Go.Pl

def upd {α : Type} (f : Nat → α) (b : Nat) (x : α) : Nat → α := fun i => if i = b then x else f i
@[simp] theorem upd_same {α : Type} (f : Nat → α) (b : Nat) (x : α) : upd f b x b = x := by simp [upd]
theorem upd_other {α : Type} (f : Nat → α) {b i : Nat} (x : α) (h : i ≠ b) : upd f b x i = f i := by simp [upd, h]

/-- The world with one block more. -/
structure PlusO (w w1 : World) (ob : Obj) : Prop where
  os : w1.os = w.os
  tape : w1.tape = w.tape
  output : w1.output = w.output
  size : w1.heap.size = w.heap.size + 1
  new : w1.heap[w.heap.size]? = some ob
  old : ∀ k, k < w.heap.size → w1.heap[k]? = w.heap[k]?
abbrev Plus (w w1 : World) (us : Array Value) (el : TypeId) (fr : Nat × Nat) : Prop := PlusO w w1 (.cells us el fr)

theorem PlusO.keep {w w1 ob g L} (h : PlusO w w1 ob) (r : Rel w g L) {st' : Nat → Nat → Prop} (hst : ∀ k j, g.st k j → st' k j) : Keep w g.st w1 st' :=
  ⟨hst, fun k _ hs => cell_same (h.old k (st_lt r hs))⟩

theorem Plus.alloc (w : World) (us : Array Value) (el : TypeId) : Plus w (w.alloc (.cells us el)) us el (0, 0) :=
  ⟨rfl, rfl, rfl, by simp, heap_alloc_new w _, fun k hk => heap_alloc_old w _ k hk⟩
theorem Plus.drew {w w1 us el fr} (h : Plus w.drew w1 us el fr) : Plus w w1 us el fr := ⟨h.os, h.tape, h.output, h.size, h.new, h.old⟩

theorem noFz_zero (c : Array Value) : NoFz c (0, 0) := by intro j _ h; simp at h

/-- A new block under a name that was none, or under one whose version goes up. -/
theorem Mv.new {w g L w1 ob} (r : Rel w g L) (h : PlusO w w1 ob) (b : Nat) (n : Nat) (x : Blk) (W : Nat → Prop) (hW : Live (L b) → W b)
    (hle : BlkLe (g.m b) (some (w.heap.size, 0, n)) (L b) x)
    (hok : ∀ _ : Ev w g L w1 ⟨upd g.m b (some (w.heap.size, 0, n)), g.st⟩ (upd L b x), BlkOk w1 ⟨upd g.m b (some (w.heap.size, 0, n)), g.st⟩ (upd L b x) b x) :
    Mv w g L W w1 ⟨upd g.m b (some (w.heap.size, 0, n)), g.st⟩ (upd L b x) := by
  have ev : Ev w g L w1 ⟨upd g.m b (some (w.heap.size, 0, n)), g.st⟩ (upd L b x) := by
    refine ⟨h.keep r fun _ _ x => x, fun i => ?_⟩
    by_cases hi : i = b
    · subst hi; simpa using hle
    · simp only [upd_other _ _ hi]; exact BlkLe.refl _ _
  refine ⟨⟨?_, ?_, ?_⟩, ev, ⟨h.os, h.tape, h.output, by rw [h.size]; omega, fun k hk _ => h.old k hk⟩, ?_, ?_, fun _ _ hs => .inl hs⟩
  · intro i
    by_cases hi : i = b
    · subst hi; rw [upd_same]; exact hok ev
    · rw [upd_other _ _ hi]
      by_cases hl : Live (L i)
      · exact (r.blk i).stay rfl ev (upd_other _ _ hi) (fun k o n hm => h.old k (r.lt hl hm)) (fun _ _ _ _ _ x => x)
      · exact BlkOk.off hl
  · intro i i' k o n o' n' hl hl' hm hm'
    by_cases hi : i = b <;> by_cases hi' : i' = b
    · rw [hi, hi']
    · subst hi
      rw [upd_other _ _ hi'] at hl'
      simp only [upd_same, upd_other _ _ hi'] at hm hm'
      have := r.lt hl' hm'
      simp at hm
      omega
    · subst hi'
      rw [upd_other _ _ hi] at hl
      simp only [upd_same, upd_other _ _ hi] at hm hm'
      have := r.lt hl hm
      simp at hm'
      omega
    · rw [upd_other _ _ hi] at hl
      rw [upd_other _ _ hi'] at hl'
      simp only [upd_other _ _ hi, upd_other _ _ hi'] at hm hm'
      exact r.inj i i' k o n o' n' hl hl' hm hm'
  · intro k j hs
    obtain ⟨u, hu⟩ := r.stc k j hs
    exact ⟨u, (cell_same (h.old k (st_lt r hs))).trans hu⟩
  · intro i hi hl
    have hne : i ≠ b := fun e => hi (e ▸ hW (e ▸ hl))
    exact ⟨upd_other _ _ hne, upd_other _ _ hne⟩
  · intro i k o n' hl hm
    by_cases hi : i = b
    · subst hi
      simp only [upd_same, Option.some.injEq, Prod.mk.injEq] at hm
      exact .inr (by omega)
    · rw [upd_other _ _ hi] at hl
      simp only [upd_other _ _ hi] at hm
      exact .inl ⟨o, n', hl, hm⟩

/-- The world with one block written anew. -/
structure RewO (w w1 : World) (k : Nat) (ob : Obj) : Prop where
  os : w1.os = w.os
  tape : w1.tape = w.tape
  output : w1.output = w.output
  size : w1.heap.size = w.heap.size
  new : w1.heap[k]? = some ob
  old : ∀ i, i ≠ k → w1.heap[i]? = w.heap[i]?
abbrev Rew (w w1 : World) (k : Nat) (c' : Array Value) (el : TypeId) (fr : Nat × Nat) : Prop := RewO w w1 k (.cells c' el fr)

theorem Rew.setRow {w : World} {k : Nat} {c c' : Array Value} {el : TypeId} {fr : Nat × Nat} (h : w.heap[k]? = some (.cells c el fr)) : Rew w (w.setRow k c') k c' el fr :=
  ⟨rfl, rfl, rfl, size_setRow w k c', setRow_heap w k c c' el fr h, fun i hi => setRow_other w k i c' hi⟩

/-- A block that nobody has settled is written. -/
theorem Mv.write {w g L w1 k ob} (r : Rel w g L) (h : RewO w w1 k ob) (b : Nat) (o n : Nat) (hm : g.m b = some (k, o, n)) (hl : Live (L b)) (hst : ∀ j, ¬ g.st k j)
    (x : Blk) (hle : BlkLe (g.m b) (g.m b) (L b) x) (hok : ∀ _ : Ev w g L w1 g (upd L b x), BlkOk w1 g (upd L b x) b x) : Mv w g L (· = b) w1 g (upd L b x) := by
  have hne : ∀ {i j}, g.st i j → i ≠ k := fun hs e => hst _ (e ▸ hs)
  have ev : Ev w g L w1 g (upd L b x) := by
    refine ⟨⟨fun _ _ x => x, fun i j hs => cell_same (h.old i (hne hs))⟩, fun i => ?_⟩
    by_cases hi : i = b
    · subst hi; simpa using hle
    · simp only [upd_other _ _ hi]; exact BlkLe.refl _ _
  have live : ∀ {i}, Live (upd L b x i) → Live (L i) := by
    intro i hi
    by_cases e : i = b
    · subst e; exact hl
    · rwa [upd_other _ _ e] at hi
  refine ⟨⟨?_, ?_, ?_⟩, ev, ⟨h.os, h.tape, h.output, by rw [h.size]; omega, fun i hi hn => h.old i fun e => hn ⟨b, o, n, rfl, hl, by rw [e]; exact hm⟩⟩, ?_, ?_, fun _ _ hs => .inl hs⟩
  · intro i
    by_cases hi : i = b
    · subst hi; rw [upd_same]; exact hok ev
    · rw [upd_other _ _ hi]
      by_cases hli : Live (L i)
      · exact (r.blk i).stay rfl ev rfl (fun k' o' n' hm' => h.old k' fun e => hi (r.inj i b k' o' n' o n hli hl hm' (by rw [e]; exact hm))) (fun _ _ _ _ _ x => x)
      · exact BlkOk.off hli
  · intro i i' k o n o' n' hi hi' hm hm'
    exact r.inj i i' k o n o' n' (live hi) (live hi') hm hm'
  · intro i j hs
    obtain ⟨u, hu⟩ := r.stc i j hs
    exact ⟨u, (cell_same (h.old i (hne hs))).trans hu⟩
  · intro i hi _
    exact ⟨upd_other _ _ hi, rfl⟩
  · intro i i' o n' hi hm
    exact .inl ⟨o, n', live hi, hm⟩

/-- The cells of an array, settled. -/
def settle (g : Gh) (k o n : Nat) : Gh := ⟨g.m, fun i j => g.st i j ∨ (i = k ∧ o ≤ j ∧ j < o + n)⟩

/-- A block told in another way: the world is as it was. -/
theorem Mv.retell {w g L} (r : Rel w g L) (b : Nat) (x : Blk) (hl : Live x → Live (L b)) (hle : BlkLe (g.m b) (g.m b) (L b) x)
    (hok : ∀ _ : Ev w g L w g (upd L b x), BlkOk w g (upd L b x) b x) : Mv w g L (· = b) w g (upd L b x) := by
  have ev : Ev w g L w g (upd L b x) := by
    refine ⟨Keep.refl _ _, fun i => ?_⟩
    by_cases hi : i = b
    · subst hi; simpa using hle
    · simp only [upd_other _ _ hi]; exact BlkLe.refl _ _
  have live : ∀ {i}, Live (upd L b x i) → Live (L i) := by
    intro i hi
    by_cases e : i = b
    · subst e; rw [upd_same] at hi; exact hl hi
    · rwa [upd_other _ _ e] at hi
  refine ⟨⟨fun i => ?_, fun i i' k o n o' n' hi hi' hm hm' => r.inj i i' k o n o' n' (live hi) (live hi') hm hm', r.stc⟩, ev, Out.refl _ _, fun i hi _ => ⟨upd_other _ _ hi, rfl⟩, fun i i' o' n' hi hm => .inl ⟨o', n', live hi, hm⟩, fun _ _ hs => .inl hs⟩
  by_cases hi : i = b
  · subst hi; rw [upd_same]; exact hok ev
  · rw [upd_other _ _ hi]
    by_cases hli : Live (L i)
    · exact (r.blk i).stay rfl ev rfl (fun _ _ _ _ => rfl) (fun _ _ _ _ _ x => x)
    · exact BlkOk.off hli

theorem Mv.freeze {w g L} (r : Rel w g L) (b : Nat) {k o n : Nat} {v es : Nat} {els : List (List AV)} (hL : L b = .arr false v es els) (hm : g.m b = some (k, o, n)) :
    Mv w g L (· = b) w (settle g k o (els.length * es)) (upd L b (.arr true v es els)) := by
  have hl : Live (L b) := by rw [hL]; trivial
  have hb := r.blk b
  rw [hL] at hb
  simp only [BlkOk, hm] at hb
  obtain ⟨huni, hlen, c, el, fr, hh, h3, h4, h5, h6, h7⟩ := hb
  have ev : Ev w g L w (settle g k o (els.length * es)) (upd L b (.arr true v es els)) := by
    refine ⟨⟨fun _ _ x => .inl x, fun _ _ _ => rfl⟩, fun i => ?_⟩
    by_cases hi : i = b
    · subst hi; simp [hL, BlkLe, settle]
    · simp only [upd_other _ _ hi]; exact BlkLe.refl _ _
  have live : ∀ {i}, Live (upd L b (.arr true v es els) i) → Live (L i) := by
    intro i hi
    by_cases e : i = b
    · subst e; exact hl
    · rwa [upd_other _ _ e] at hi
  refine ⟨⟨?_, ?_, ?_⟩, ev, Out.refl _ _, ?_, ?_, ?_⟩
  · intro i
    by_cases hi : i = b
    · subst hi
      rw [upd_same]
      simp only [BlkOk, settle, hm]
      refine ⟨huni, hlen, c, el, fr, hh, h3, h4, h5.ev ev, fun _ => ⟨fun j hj => .inr (by simp; omega), fun j hj => ?_⟩, fun hf => by simp at hf⟩
      rcases hj with hj | ⟨_, h1, h2⟩
      · exact (h7 trivial j hj).elim
      · exact h2
    · rw [upd_other _ _ hi]
      by_cases hli : Live (L i)
      · refine (r.blk i).stay rfl ev rfl (fun _ _ _ _ => rfl) ?_
        rintro k' o' n' j hm' (hs | ⟨rfl, _⟩)
        · exact hs
        · exact (hi (r.inj i b _ o' n' o n hli hl hm' hm)).elim
      · exact BlkOk.off hli
  · intro i i' k o n o' n' hi hi' hm hm'
    exact r.inj i i' k o n o' n' (live hi) (live hi') hm hm'
  · rintro i j (hs | ⟨rfl, ho, hj⟩)
    · exact r.stc i j hs
    · have hc : j < c.size := by
        have := Nat.mul_le_mul_right es hlen
        omega
      exact ⟨c[j], by simp [World.cell?, hh, hc]⟩
  · intro i hi _
    exact ⟨upd_other _ _ hi, rfl⟩
  · intro i i' o' n' hi hm
    exact .inl ⟨o', n', live hi, hm⟩
  · rintro i j (hs | ⟨rfl, _⟩)
    · exact .inl hs
    · exact .inr (.inl ⟨b, o, n, rfl, hl, hm⟩)

/-- Settled elements read as an inline value. -/
theorem cells_VCs {w : World} {st : Nat → Nat → Prop} {c : Array Value} {el : TypeId} {fr : Nat × Nat} {k : Nat} (hh : w.heap[k]? = some (.cells c el fr)) :
    ∀ (e : List PV) (o : Nat), (∀ (j : Nat) x, e[j]? = some x → ∃ u, c[o + j]? = some u ∧ u.oneCell' = true ∧ VP w st x u) → (∀ j, j < e.length → st k (o + j)) → VCs w st e k o
  | [], _, _, _ => by simp only [VCs]
  | x :: e, o, h, hs => by
    simp only [VCs]
    refine ⟨by simpa using hs 0 (by simp), ?_, cells_VCs hh e (o + 1) (fun j y hy => ?_) (fun j hj => ?_)⟩
    · obtain ⟨u, hu, ho, hv⟩ := h 0 x rfl
      exact ⟨u, by simpa [World.cell?, hh] using hu, ho, hv⟩
    · have := h (j + 1) y (by simpa using hy)
      rwa [show o + (j + 1) = o + 1 + j by omega] at this
    · have := hs (j + 1) (by simp; omega)
      rwa [show o + (j + 1) = o + 1 + j by omega] at this

theorem els_VEs {w : World} {st : Nat → Nat → Prop} {es : Nat} {c : Array Value} {el : TypeId} {fr : Nat × Nat} {k : Nat} (hh : w.heap[k]? = some (.cells c el fr)) :
    ∀ (els : List (List PV)) (o : Nat), (∀ e ∈ els, e.length = es) → ElP w st es els c o → (∀ j, j < els.length * es → st k (o + j)) → VEs w st els k o
  | [], _, _, _, _ => by simp only [VEs]
  | e :: els, o, hu, h, hs => by
    have he : e.length = es := hu e (by simp)
    simp only [VEs]
    refine ⟨cells_VCs hh e o (fun j x hx => ?_) (fun j hj => hs j ?_), ?_⟩
    · simpa using h 0 e rfl j x hx
    · simp only [List.length_cons, Nat.add_mul, Nat.one_mul]; omega
    · rw [he]
      refine els_VEs hh els (o + es) (fun x hx => hu x (by simp [hx])) (fun i x hx j y hy => ?_) (fun j hj => ?_)
      · have := h (i + 1) x (by simpa using hx) j y hy
        rwa [show o + (i + 1) * es + j = o + es + i * es + j by rw [Nat.add_mul]; omega] at this
      · have := hs (es + j) (by simp only [List.length_cons, Nat.add_mul, Nat.one_mul]; omega)
        rwa [show o + (es + j) = o + es + j by omega] at this

end Go.Pl
