/- How a plain store stands for a world, and what becomes of it when a block is made, written or frozen. -/
import Derived.Test.YtkaaolegkffckaaGreatDoorPlBase
import Derived.Laws.Rows
import Derived.Laws.AppendOwn
import Derived.Laws.CopyRow
import Derived.Laws.IdiomCopy
set_option linter.unusedVariables false
set_option linter.unusedSimpArgs false
namespace Go.Pl

def NoFz (c : Array Value) (fr : Nat × Nat) : Prop := ∀ j, j < c.size → ¬ (fr.1 ≤ j ∧ j < fr.2)

/-- The cells of an array's elements. -/
def ElOk (w : World) (g : Gh) (L : Nat → Blk) (es : Nat) (els : List (List AV)) (c : Array Value) (o : Nat) : Prop :=
  ∀ i e, els[i]? = some e → ∀ j x, e[j]? = some x → ∃ u, c[o + i * es + j]? = some u ∧ u.oneCell' = true ∧ VA w g L x u

/-- The same, of settled cells. -/
def ElP (w : World) (st : Nat → Nat → Prop) (es : Nat) (els : List (List PV)) (c : Array Value) (o : Nat) : Prop :=
  ∀ i e, els[i]? = some e → ∀ j x, e[j]? = some x → ∃ u, c[o + i * es + j]? = some u ∧ u.oneCell' = true ∧ VP w st x u

def Live : Blk → Prop
  | .arr .. | .box _ | .it .. => True
  | _ => False

def BlkOk (w : World) (g : Gh) (L : Nat → Blk) (b : Nat) : Blk → Prop
  | .none | .dead => True
  | .arr fz _ es els => (∀ e ∈ els, e.length = es) ∧ match g.m b with
    | Option.none => els = []
    | some (k, o, n) => els.length ≤ n ∧ ∃ (c : Array Value) (el : TypeId) (fr : Nat × Nat), w.heap[k]? = some (.cells c el fr) ∧ NoFz c fr ∧ o + n * es ≤ c.size ∧ ElOk w g L es els c o ∧
        (fz = true → (∀ j, j < els.length * es → g.st k (o + j)) ∧ ∀ j, g.st k j → j < o + els.length * es) ∧ (fz = false → ∀ j, ¬ g.st k j)
  | .box cells => ∃ k n, g.m b = some (k, 0, n) ∧ ∃ (c : Array Value) (el : TypeId) (fr : Nat × Nat), w.heap[k]? = some (.cells c el fr) ∧ NoFz c fr ∧ c.size = cells.length ∧
        (∀ (j : Nat) (x : AV), cells[j]? = some x → ∃ u, c[j]? = some u ∧ VA w g L x u) ∧ ∀ j, ¬ g.st k j
  | .it s pos => ∃ k n, g.m b = some (k, 0, n) ∧ w.heap[k]? = some (.stringIter s pos) ∧ ∀ j, ¬ g.st k j

structure Rel (w : World) (g : Gh) (L : Nat → Blk) : Prop where
  blk : ∀ b, BlkOk w g L b (L b)
  inj : ∀ b b' k o n o' n', Live (L b) → Live (L b') → g.m b = some (k, o, n) → g.m b' = some (k, o', n') → b = b'
  stc : ∀ k j, g.st k j → ∃ u, w.cell? ⟨k, j, none⟩ = some u

theorem Rel.lt {w g L} (h : Rel w g L) {b k o n} (hl : Live (L b)) (hm : g.m b = some (k, o, n)) : k < w.heap.size := by
  have hb := h.blk b
  cases hL : L b with
  | none => rw [hL] at hl; exact hl.elim
  | dead => rw [hL] at hl; exact hl.elim
  | arr fz v es els =>
    rw [hL] at hb
    simp only [BlkOk, hm] at hb
    obtain ⟨_, _, c, el, fr, hh, _⟩ := hb
    exact (Array.getElem?_eq_some_iff.1 hh).1
  | box cells =>
    rw [hL] at hb
    simp only [BlkOk, hm] at hb
    obtain ⟨k', n', he, c, el, fr, hh, _⟩ := hb
    obtain ⟨rfl, rfl, rfl⟩ : k = k' ∧ o = 0 ∧ n = n' := by simpa using he
    exact (Array.getElem?_eq_some_iff.1 hh).1
  | it s pos =>
    rw [hL] at hb
    simp only [BlkOk, hm] at hb
    obtain ⟨k', n', he, hh, _⟩ := hb
    obtain ⟨rfl, rfl, rfl⟩ : k = k' ∧ o = 0 ∧ n = n' := by simpa using he
    exact (Array.getElem?_eq_some_iff.1 hh).1

theorem st_lt {w g L} (h : Rel w g L) {k j} (hs : g.st k j) : k < w.heap.size := by
  obtain ⟨u, hu⟩ := h.stc k j hs
  exact World.block_lt_of_cell? w _ hu

/-- What a world is outside some blocks. -/
structure Out (w w' : World) (touch : Nat → Prop) : Prop where
  os : w'.os = w.os
  tape : w'.tape = w.tape
  output : w'.output = w.output
  size : w.heap.size ≤ w'.heap.size
  same : ∀ k, k < w.heap.size → ¬ touch k → w'.heap[k]? = w.heap[k]?

theorem Out.refl (w : World) (t : Nat → Prop) : Out w w t := ⟨rfl, rfl, rfl, Nat.le_refl _, fun _ _ _ => rfl⟩
theorem Out.mono {w w' : World} {t t' : Nat → Prop} (h : Out w w' t) (ht : ∀ k, k < w.heap.size → t k → t' k) : Out w w' t' :=
  ⟨h.os, h.tape, h.output, h.size, fun k hk hn => h.same k hk fun x => hn (ht k hk x)⟩
theorem Out.trans {w w' w'' : World} {t t' : Nat → Prop} (h : Out w w' t) (k : Out w' w'' t') (ht : ∀ k, k < w.heap.size → t' k → t k) : Out w w'' t :=
  ⟨k.os.trans h.os, k.tape.trans h.tape, k.output.trans h.output, Nat.le_trans h.size k.size,
   fun i hi hn => (k.same i (Nat.lt_of_lt_of_le hi h.size) fun x => hn (ht i hi x)).trans (h.same i hi hn)⟩

/-- The blocks that names of a set lie in. -/
def At (g : Gh) (L : Nat → Blk) (W : Nat → Prop) (k : Nat) : Prop := ∃ b o n, W b ∧ Live (L b) ∧ g.m b = some (k, o, n)

/-- One move: what stands for what behind it, and what may have turned. -/
structure Mv (w : World) (g : Gh) (L : Nat → Blk) (W : Nat → Prop) (w' : World) (g' : Gh) (L' : Nat → Blk) : Prop where
  rel : Rel w' g' L'
  ev : Ev w g L w' g' L'
  out : Out w w' (At g L W)
  other : ∀ b, ¬ W b → Live (L b) → L' b = L b ∧ g'.m b = g.m b
  place : ∀ b k o n, Live (L' b) → g'.m b = some (k, o, n) → (∃ o' n', Live (L b) ∧ g.m b = some (k, o', n')) ∨ w.heap.size ≤ k
  news : ∀ k j, g'.st k j → g.st k j ∨ At g L W k ∨ w.heap.size ≤ k

theorem Mv.refl {w g L} (h : Rel w g L) (W : Nat → Prop) : Mv w g L W w g L :=
  ⟨h, Ev.refl _ _ _, Out.refl _ _, fun _ _ _ => ⟨rfl, rfl⟩, fun _ _ _ _ hl hm => .inl ⟨_, _, hl, hm⟩, fun _ _ h => .inl h⟩

theorem Mv.mono {w g L W w' g' L'} (h : Mv w g L W w' g' L') {W' : Nat → Prop} (hW : ∀ b, W b → W' b) : Mv w g L W' w' g' L' :=
  ⟨h.rel, h.ev, h.out.mono fun _ _ ⟨b, o, n, hb, hl, hm⟩ => ⟨b, o, n, hW b hb, hl, hm⟩, fun b hb => h.other b fun x => hb (hW b x), h.place,
   fun k j hs => (h.news k j hs).imp_right fun x => x.imp_left fun ⟨b, o, n, hb, hl, hm⟩ => ⟨b, o, n, hW b hb, hl, hm⟩⟩

/-- Two moves behind one another; the second may write what the first made. -/
theorem Mv.trans {w g L W w' g' L' W' w'' g'' L''} (h : Mv w g L W w' g' L') (k : Mv w' g' L' W' w'' g'' L'')
    (hW : ∀ b, W' b → W b ∨ ¬ Live (L b)) : Mv w g L W w'' g'' L'' := by
  have hat : ∀ i, i < w.heap.size → At g' L' W' i → At g L W i := by
    rintro i hi ⟨b, o, n, hb, hl, hm⟩
    rcases h.place b i o n hl hm with ⟨o', n', hl', hm'⟩ | hge
    · rcases hW b hb with hw | hn
      · exact ⟨b, o', n', hw, hl', hm'⟩
      · exact (hn hl').elim
    · omega
  refine ⟨k.rel, h.ev.trans k.ev, h.out.trans k.out hat, ?_, ?_, ?_⟩
  · intro b hb hl
    obtain ⟨e1, e2⟩ := h.other b hb hl
    have hb' : ¬ W' b := fun x => (hW b x).elim hb fun n => n hl
    obtain ⟨e3, e4⟩ := k.other b hb' (e1 ▸ hl)
    exact ⟨e3.trans e1, e4.trans e2⟩
  · intro b i o n hl hm
    rcases k.place b i o n hl hm with ⟨o', n', hl', hm'⟩ | hge
    · rcases h.place b i o' n' hl' hm' with ⟨o2, n2, hl2, hm2⟩ | hge
      · exact .inl ⟨o2, n2, hl2, hm2⟩
      · exact .inr hge
    · exact .inr (Nat.le_trans h.out.size hge)
  · intro i j hs
    rcases k.news i j hs with hs | hs | hs
    · exact h.news i j hs
    · by_cases hi : i < w.heap.size
      · exact .inr (.inl (hat i hi hs))
      · exact .inr (.inr (by omega))
    · exact .inr (.inr (Nat.le_trans h.out.size hs))

/-- Cells of blocks that stay are as they were. -/
theorem cell_same {w w' : World} {k j : Nat} (h : w'.heap[k]? = w.heap[k]?) : w'.cell? ⟨k, j, none⟩ = w.cell? ⟨k, j, none⟩ :=
  World.cell?_of_block (w := w) h

theorem ElOk.ev {w g L w' g' L' es els c o} (h : ElOk w g L es els c o) (hk : Ev w g L w' g' L') : ElOk w' g' L' es els c o := fun i e he j x hx =>
  let ⟨u, hu, ho, hv⟩ := h i e he j x hx
  ⟨u, hu, ho, VA.ev hk x u hv⟩

/-- A block that is not touched is as it was. -/
theorem BlkOk.stay {w g L w' g' L'} {b : Nat} {x : Blk} (h : BlkOk w g L b x) (hx : x = L b) (ev : Ev w g L w' g' L') (hm : g'.m b = g.m b)
    (hheap : ∀ k o n, g.m b = some (k, o, n) → w'.heap[k]? = w.heap[k]?) (hst : ∀ k o n j, g.m b = some (k, o, n) → g'.st k j → g.st k j) : BlkOk w' g' L' b x := by
  cases x with
  | none => trivial
  | dead => trivial
  | arr fz v es els =>
    simp only [BlkOk, hm] at h ⊢
    refine ⟨h.1, ?_⟩
    have h2 := h.2
    revert h2
    cases hg : g.m b with
    | none => simp
    | some t =>
      obtain ⟨k, o, n⟩ := t
      rintro ⟨hl, c, el, fr, hh, h3, h4, h5, h6, h7⟩
      exact ⟨hl, c, el, fr, (hheap k o n hg).trans hh, h3, h4, h5.ev ev, fun hf => ⟨fun j hj => ev.keep.sub _ _ ((h6 hf).1 j hj), fun j hj => (h6 hf).2 j (hst k o n j hg hj)⟩, fun hf j hj => h7 hf j (hst k o n j hg hj)⟩
  | box cells =>
    simp only [BlkOk, hm] at h ⊢
    obtain ⟨k, n, hg, c, el, fr, hh, h3, h4, h5, h6⟩ := h
    exact ⟨k, n, hg, c, el, fr, (hheap k 0 n hg).trans hh, h3, h4, fun j x hx => let ⟨u, hu, hv⟩ := h5 j x hx; ⟨u, hu, VA.ev ev x u hv⟩, fun j hj => h6 j (hst k 0 n j hg hj)⟩
  | it s pos =>
    simp only [BlkOk, hm] at h ⊢
    obtain ⟨k, n, hg, hh, h6⟩ := h
    exact ⟨k, n, hg, (hheap k 0 n hg).trans hh, fun j hj => h6 j (hst k 0 n j hg hj)⟩

/-- What is not live says nothing. -/
theorem BlkOk.off {w g L b x} (h : ¬ Live x) : BlkOk w g L b x := by
  cases x <;> first | trivial | exact (h trivial).elim

end Go.Pl
