/- A store seen under other names: how a called function sees its caller's store, and back. -/
import Derived.Test.YtkaaolegkffckaaGreatDoorPlAny
set_option linter.unusedVariables false
set_option linter.unusedSimpArgs false
namespace Go.Pl

mutual
def ren (σ base : Nat → Nat) : AV → AV
  | .own b ver off len => .own (σ b) (ver + base b) off len
  | .bp b off => .bp (σ b) off
  | .ep b ver i off => .ep (σ b) (ver + base b) i off
  | .clo f caps => .clo f (rens σ base caps)
  | .agg cs => .agg (rens σ base cs)
  | .tup cs => .tup (rens σ base cs)
  | .p x => .p x
  | .nil i => .nil i
  | .rp cs => .rp cs
  | .any => .any
def rens (σ base : Nat → Nat) : List AV → List AV
  | [] => []
  | c :: cs => ren σ base c :: rens σ base cs
end

mutual
def below (K : Nat) : AV → Bool
  | .own b _ _ _ | .bp b _ | .ep b _ _ _ => decide (b < K)
  | .clo _ cs | .agg cs | .tup cs => belows K cs
  | _ => true
def belows (K : Nat) : List AV → Bool
  | [] => true
  | c :: cs => below K c && belows K cs
end

def renB (σ base : Nat → Nat) (i : Nat) : Blk → Blk
  | .arr fz v es els => .arr fz (v + base i) es (els.map (rens σ base))
  | .box cells => .box (rens σ base cells)
  | x => x

/-- What `M` says of the names below `K` is what `L` says of their names there. -/
structure View (σ base : Nat → Nat) (K : Nat) (M L : Nat → Blk) : Prop where
  eq : ∀ i, i < K → L (σ i) = renB σ base i (M i)
  none : ∀ i, K ≤ i → M i = .none
  inj : ∀ i j, i < K → j < K → σ i = σ j → i = j

/-- The same, but what is dead in `M` may be anything. -/
structure ViewD (σ base : Nat → Nat) (K : Nat) (M L : Nat → Blk) : Prop where
  eq : ∀ i, i < K → M i = .dead ∨ L (σ i) = renB σ base i (M i)
  none : ∀ i, K ≤ i → M i = .none
  inj : ∀ i j, Live (M i) → Live (M j) → σ i = σ j → i = j

theorem Live_renB {σ base i x} : Live (renB σ base i x) ↔ Live x := by cases x <;> simp [renB, Live]

section
variable {w : World} {g gv : Gh} {L M : Nat → Blk} {σ base : Nat → Nat} {K : Nat}

theorem View.live (v : View σ base K M L) {i : Nat} (h : Live (M i)) : i < K := by
  rcases Nat.lt_or_ge i K with h' | h'
  · exact h'
  · rw [v.none i h'] at h; exact h.elim

theorem View.D (v : View σ base K M L) : ViewD σ base K M L :=
  ⟨fun i hi => .inr (v.eq i hi), v.none, fun i j hi hj => v.inj i j (v.live hi) (v.live hj)⟩

theorem ViewD.live (v : ViewD σ base K M L) {i : Nat} (h : Live (M i)) : i < K ∧ L (σ i) = renB σ base i (M i) := by
  have hi : i < K := by
    rcases Nat.lt_or_ge i K with h' | h'
    · exact h'
    · rw [v.none i h'] at h; exact h.elim
  refine ⟨hi, (v.eq i hi).resolve_left fun e => ?_⟩
  rw [e] at h; exact h

mutual
/-- A value under other names, from the view to the store. -/
theorem VA_up (hv : View σ base K M L) (hm : ∀ i, i < K → gv.m i = g.m (σ i)) (hs : gv.st = g.st) : ∀ (x : AV) (u : Value), VA w gv M x u → VA w g L (ren σ base x) u
  | .p x, u, h => by simp only [ren, VA] at h ⊢; rwa [← hs]
  | .own b ver off len, u, h => by
    have hb : b < K := by
      rcases Nat.lt_or_ge b K with h' | h'
      · exact h'
      · simp only [VA, hv.none b h'] at h; exact h.2.elim
    simp only [ren, VA] at h ⊢
    refine ⟨h.1, ?_⟩
    rw [hv.eq b hb]
    have h2 := h.2
    cases hM : M b with
    | none => simp only [hM] at h2
    | dead => simp only [renB]
    | box => simp only [hM] at h2
    | it => simp only [hM] at h2
    | arr fz v es els =>
      simp only [hM] at h2
      simp only [renB]
      refine ⟨by omega, fun e => ?_⟩
      have := h2.2 (by omega)
      rwa [hm b hb] at this
  | .nil i, u, h => by simpa only [ren, VA] using h
  | .bp b off, u, h => by
    have hb : b < K := by
      rcases Nat.lt_or_ge b K with h' | h'
      · exact h'
      · simp only [VA, hv.none b h'] at h; exact h.2.elim
    simp only [ren, VA] at h ⊢
    refine ⟨h.1, ?_⟩
    rw [hv.eq b hb]
    have h2 := h.2
    cases hM : M b with
    | none => simp only [hM] at h2
    | dead => simp only [renB]
    | arr => simp only [hM] at h2
    | box cells =>
      simp only [hM] at h2
      simp only [renB]
      rwa [hm b hb] at h2
    | it s pos =>
      simp only [hM] at h2
      simp only [renB]
      rwa [hm b hb] at h2
  | .ep b ver i off, u, h => by
    have hb : b < K := by
      rcases Nat.lt_or_ge b K with h' | h'
      · exact h'
      · simp only [VA, hv.none b h'] at h; exact h.2.elim
    simp only [ren, VA] at h ⊢
    refine ⟨h.1, ?_⟩
    rw [hv.eq b hb]
    have h2 := h.2
    cases hM : M b with
    | none => simp only [hM] at h2
    | dead => simp only [renB]
    | box => simp only [hM] at h2
    | it => simp only [hM] at h2
    | arr fz v es els =>
      simp only [hM] at h2
      simp only [renB]
      refine ⟨by omega, fun e => ?_⟩
      have := h2.2 (by omega)
      rwa [hm b hb] at this
  | .rp cs, u, h => by simp only [ren, VA] at h ⊢; rwa [← hs]
  | .clo f caps, u, h => by
    simp only [ren, VA] at h ⊢
    obtain ⟨cv, rfl, h⟩ := h
    exact ⟨cv, rfl, VAs_up hv hm hs caps cv h⟩
  | .agg cs, u, h => by
    simp only [ren, VA] at h ⊢
    obtain ⟨cv, rfl, h⟩ := h
    exact ⟨cv, rfl, VAs_up hv hm hs cs cv h⟩
  | .tup cs, u, h => by
    simp only [ren, VA] at h ⊢
    obtain ⟨cv, rfl, h⟩ := h
    exact ⟨cv, rfl, VAs_up hv hm hs cs cv h⟩
  | .any, u, h => by simp only [ren, VA]
theorem VAs_up (hv : View σ base K M L) (hm : ∀ i, i < K → gv.m i = g.m (σ i)) (hs : gv.st = g.st) : ∀ (xs : List AV) (us : List Value), VAs w gv M xs us → VAs w g L (rens σ base xs) us
  | [], us, h => by simpa only [rens, VAs] using h
  | x :: xs, us, h => by
    simp only [rens, VAs] at h ⊢
    obtain ⟨u, us', rfl, h1, h2⟩ := h
    exact ⟨u, us', rfl, VA_up hv hm hs x u h1, VAs_up hv hm hs xs us' h2⟩
end

mutual
/-- The other way. -/
theorem VA_down (hv : ViewD σ base K M L) (hm : ∀ i, i < K → gv.m i = g.m (σ i)) (hs : gv.st = g.st) : ∀ (x : AV) (u : Value), below K x = true → VA w g L (ren σ base x) u → VA w gv M x u
  | .p x, u, _, h => by simp only [ren, VA] at h ⊢; rwa [hs]
  | .own b ver off len, u, hb, h => by
    have hb : b < K := by simpa [below] using hb
    simp only [ren, VA] at h ⊢
    refine ⟨h.1, ?_⟩
    have h2 := h.2
    rcases hv.eq b hb with hd | he
    · rw [hd]; trivial
    rw [he] at h2
    cases hM : M b with
    | none => simp only [hM, renB] at h2
    | dead => simp only
    | box => simp only [hM, renB] at h2
    | it => simp only [hM, renB] at h2
    | arr fz v es els =>
      simp only [hM, renB] at h2 ⊢
      refine ⟨by omega, fun e => ?_⟩
      have := h2.2 (by omega)
      rwa [hm b hb]
  | .nil i, u, _, h => by simpa only [ren, VA] using h
  | .bp b off, u, hb, h => by
    have hb : b < K := by simpa [below] using hb
    simp only [ren, VA] at h ⊢
    refine ⟨h.1, ?_⟩
    have h2 := h.2
    rcases hv.eq b hb with hd | he
    · rw [hd]; trivial
    rw [he] at h2
    cases hM : M b with
    | none => simp only [hM, renB] at h2
    | dead => simp only
    | arr => simp only [hM, renB] at h2
    | box cells =>
      simp only [hM, renB] at h2 ⊢
      rwa [hm b hb]
    | it s pos =>
      simp only [hM, renB] at h2 ⊢
      rwa [hm b hb]
  | .ep b ver i off, u, hb, h => by
    have hb : b < K := by simpa [below] using hb
    simp only [ren, VA] at h ⊢
    refine ⟨h.1, ?_⟩
    have h2 := h.2
    rcases hv.eq b hb with hd | he
    · rw [hd]; trivial
    rw [he] at h2
    cases hM : M b with
    | none => simp only [hM, renB] at h2
    | dead => simp only
    | box => simp only [hM, renB] at h2
    | it => simp only [hM, renB] at h2
    | arr fz v es els =>
      simp only [hM, renB] at h2 ⊢
      refine ⟨by omega, fun e => ?_⟩
      have := h2.2 (by omega)
      rwa [hm b hb]
  | .rp cs, u, _, h => by simp only [ren, VA] at h ⊢; rwa [hs]
  | .clo f caps, u, hb, h => by
    simp only [below] at hb
    simp only [ren, VA] at h ⊢
    obtain ⟨cv, rfl, h⟩ := h
    exact ⟨cv, rfl, VAs_down hv hm hs caps cv hb h⟩
  | .agg cs, u, hb, h => by
    simp only [below] at hb
    simp only [ren, VA] at h ⊢
    obtain ⟨cv, rfl, h⟩ := h
    exact ⟨cv, rfl, VAs_down hv hm hs cs cv hb h⟩
  | .tup cs, u, hb, h => by
    simp only [below] at hb
    simp only [ren, VA] at h ⊢
    obtain ⟨cv, rfl, h⟩ := h
    exact ⟨cv, rfl, VAs_down hv hm hs cs cv hb h⟩
  | .any, u, _, h => by simp only [VA]
theorem VAs_down (hv : ViewD σ base K M L) (hm : ∀ i, i < K → gv.m i = g.m (σ i)) (hs : gv.st = g.st) : ∀ (xs : List AV) (us : List Value), belows K xs = true → VAs w g L (rens σ base xs) us → VAs w gv M xs us
  | [], us, _, h => by simpa only [rens, VAs] using h
  | x :: xs, us, hb, h => by
    simp only [belows, Bool.and_eq_true] at hb
    simp only [rens, VAs] at h ⊢
    obtain ⟨u, us', rfl, h1, h2⟩ := h
    exact ⟨u, us', rfl, VA_down hv hm hs x u hb.1 h1, VAs_down hv hm hs xs us' hb.2 h2⟩
end

/-- The ghost of a view. -/
def ghV (g : Gh) (σ : Nat → Nat) : Gh := ⟨fun i => g.m (σ i), g.st⟩

theorem belows_get : ∀ {xs : List AV} {j : Nat} {x : AV}, belows K xs = true → xs[j]? = some x → below K x = true
  | [], j, x, _, h => by simp at h
  | y :: ys, j, x, hb, h => by
    simp only [belows, Bool.and_eq_true] at hb
    cases j with
    | zero => simp at h; subst h; exact hb.1
    | succ j => exact belows_get hb.2 (by simpa using h)

theorem rens_get : ∀ {xs : List AV} {j : Nat} {x : AV}, xs[j]? = some x → (rens σ base xs)[j]? = some (ren σ base x)
  | [], j, x, h => by simp at h
  | y :: ys, j, x, h => by
    cases j with
    | zero => simp at h; subst h; simp [rens]
    | succ j => simp only [rens, List.getElem?_cons_succ]; exact rens_get (by simpa using h)

theorem rens_len : ∀ {xs : List AV}, (rens σ base xs).length = xs.length
  | [] => rfl
  | y :: ys => by simp [rens, rens_len (xs := ys)]

def boxBelow (K : Nat) : Blk → Bool
  | .box cells => belows K cells
  | .arr _ _ _ els => els.all (belows K)
  | _ => true

/-- A store under a view is a store. -/
theorem Rel.view (r : Rel w g L) (v : ViewD σ base K M L) (hb : ∀ i, i < K → boxBelow K (M i) = true) : Rel w (ghV g σ) M := by
  refine ⟨fun i => ?_, fun i j k o n o' n' h1 h2 h3 h4 => ?_, r.stc⟩
  · by_cases hl : Live (M i)
    · obtain ⟨hi, he⟩ := v.live hl
      have h := r.blk (σ i)
      have hB := hb i hi
      rw [he] at h
      cases hM : M i with
      | none => trivial
      | dead => trivial
      | arr fz ver es els =>
        simp only [hM, renB, BlkOk] at h ⊢
        simp only [hM, boxBelow] at hB
        refine ⟨fun e he => ?_, ?_⟩
        · have := h.1 (rens σ base e) (List.mem_map.2 ⟨e, he, rfl⟩)
          rwa [rens_len] at this
        · have h2 := h.2
          show match g.m (σ i) with
            | none => els = []
            | some (k, o, n) => _
          cases hg : g.m (σ i) with
          | none => simpa only [hg, List.map_eq_nil_iff] using h2
          | some t =>
            obtain ⟨k, o, n⟩ := t
            simp only [hg, List.length_map] at h2
            obtain ⟨hl, c, el, fr, hh, h3, h4, h5, h6⟩ := h2
            refine ⟨hl, c, el, fr, hh, h3, h4, fun i' e he j x hx => ?_, h6⟩
            obtain ⟨u, hu, ho, hvv⟩ := h5 i' (rens σ base e) (by simp [he]) j _ (rens_get hx)
            exact ⟨u, hu, ho, VA_down (g := g) (gv := ghV g σ) v (fun _ _ => rfl) rfl x u (belows_get (List.all_eq_true.1 hB e (List.mem_of_getElem? he)) hx) hvv⟩
      | it s pos =>
        simp only [hM, renB, BlkOk] at h ⊢
        exact h
      | box cells =>
        simp only [hM, renB, BlkOk] at h ⊢
        simp only [hM, boxBelow] at hB
        obtain ⟨k, n, hg, c, el, fr, hh, h3, h4, h5, h6⟩ := h
        refine ⟨k, n, hg, c, el, fr, hh, h3, by rw [h4, rens_len], fun j x hx => ?_, h6⟩
        obtain ⟨u, hu, hvv⟩ := h5 j _ (rens_get hx)
        exact ⟨u, hu, VA_down (g := g) (gv := ghV g σ) v (fun _ _ => rfl) rfl x u (belows_get hB hx) hvv⟩
    · exact BlkOk.off hl
  · refine v.inj i j h1 h2 (r.inj (σ i) (σ j) k o n o' n' ?_ ?_ h3 h4)
    · rw [(v.live h1).2]; exact Live_renB.2 h1
    · rw [(v.live h2).2]; exact Live_renB.2 h2

theorem BlkLe_renB {m m' : Option (Nat × Nat × Nat)} {σ σ' base : Nat → Nat} {i : Nat} {x y : Blk} (h : BlkLe m m' x y) : BlkLe m m' (renB σ base i x) (renB σ' base i y) := by
  cases x <;> cases y <;> first
    | exact h
    | exact ⟨by have := h.1; omega, fun e => h.2 (by omega)⟩
    | trivial
    | cases h

/-- What the called function did, seen by its caller. -/
theorem MA.up {w' : World} {g' : Gh} {M' L' : Nat → Blk} {K' : Nat} (r : Rel w g L) (v : View σ base K M L) (hK : K ≤ K')
    (h : MA w (ghV g σ) M w' g' M') (v' : View σ base K' M' L') (hnew : ∀ i, K ≤ i → i < K' → L (σ i) = .none) (hoth : ∀ b, (∀ i, i < K' → b ≠ σ i) → L' b = L b) :
    ∃ g'', MA w g L w' g'' L' ∧ (∀ i, i < K' → g'.m i = g''.m (σ i)) ∧ g'.st = g''.st := by
  classical
  have hex : ∃ m : Nat → Option (Nat × Nat × Nat), (∀ i, i < K' → m (σ i) = g'.m i) ∧ ∀ b, (∀ i, i < K' → b ≠ σ i) → m b = g.m b := by
    refine ⟨fun b => if h : ∃ i, i < K' ∧ b = σ i then g'.m h.choose else g.m b, fun i hi => ?_, fun b hb => ?_⟩
    · have hx : ∃ j, j < K' ∧ σ i = σ j := ⟨i, hi, rfl⟩
      simp only [dif_pos hx]
      rw [← v'.inj i hx.choose hi hx.choose_spec.1 hx.choose_spec.2]
    · show (if h : ∃ i, i < K' ∧ b = σ i then g'.m h.choose else g.m b) = _
      rw [dif_neg]
      rintro ⟨i, hi, e⟩
      exact hb i hi e
  obtain ⟨m, hm1, hm2⟩ := hex
  have hcase : ∀ b, (∃ i, i < K' ∧ b = σ i) ∨ (∀ i, i < K' → b ≠ σ i) := fun b => by
    by_cases hx : ∃ i, i < K' ∧ b = σ i
    · exact .inl hx
    · exact .inr fun i hi e => hx ⟨i, hi, e⟩
  have hat : ∀ k, At (ghV g σ) M All k → At g L All k := by
    rintro k ⟨i, o, n, _, hl, hmm⟩
    have hi := v.live hl
    exact ⟨σ i, o, n, trivial, by rw [v.eq i hi]; exact Live_renB.2 hl, hmm⟩
  have ev : Ev w g L w' ⟨m, g'.st⟩ L' := by
    refine ⟨h.ev.keep, fun b => ?_⟩
    rcases hcase b with ⟨i, hi, rfl⟩ | hb
    · rcases Nat.lt_or_ge i K with hik | hik
      · simp only [hm1 i hi]
        rw [v.eq i hik, v'.eq i hi]
        exact BlkLe_renB (h.ev.le i)
      · rw [hnew i hik hi]; simp [BlkLe]
    · simp only [hm2 b hb, hoth b hb]; exact BlkLe.refl _ _
  -- a name that the call did not see, and its block
  have far : ∀ b k o n, (∀ i, i < K' → b ≠ σ i) → Live (L b) → g.m b = some (k, o, n) → k < w.heap.size ∧ ¬ At (ghV g σ) M All k := by
    intro b k o n hb hl hbm
    refine ⟨r.lt hl hbm, ?_⟩
    rintro ⟨i, o', n', _, hl', hmm⟩
    have hi := v.live hl'
    exact hb i (by omega) (r.inj b (σ i) k o n o' n' hl (by rw [v.eq i hi]; exact Live_renB.2 hl') hbm hmm)
  refine ⟨⟨m, g'.st⟩, ⟨⟨fun b => ?_, ?_, h.rel.stc⟩, ev, ⟨h.out.os, h.out.tape, h.out.output, h.out.size, fun k hk hn => h.out.same k hk fun x => hn (hat k x)⟩, ?_, ?_⟩, fun i hi => (hm1 i hi).symm, rfl⟩
  · rcases hcase b with ⟨i, hi, rfl⟩ | hb
    · have hB := h.rel.blk i
      rw [v'.eq i hi]
      cases hM : M' i with
      | none => trivial
      | dead => trivial
      | arr fz ver es els =>
        simp only [hM, renB, BlkOk, hm1 i hi] at hB ⊢
        refine ⟨fun e he => ?_, ?_⟩
        · obtain ⟨e', he', rfl⟩ := List.mem_map.1 he
          rw [rens_len]; exact hB.1 e' he'
        · have h2 := hB.2
          cases hg : g'.m i with
          | none => simpa only [hg, List.map_eq_nil_iff] using h2
          | some t =>
            obtain ⟨k, o, n⟩ := t
            simp only [hg, List.length_map] at h2 ⊢
            obtain ⟨hl, c, el, fr, hh, h3, h4, h5, h6⟩ := h2
            refine ⟨hl, c, el, fr, hh, h3, h4, fun i' e he j x hx => ?_, h6⟩
            simp only [List.getElem?_map, Option.map_eq_some_iff] at he
            obtain ⟨e', he', rfl⟩ := he
            have hjl : j < e'.length := by
              have := (List.getElem?_eq_some_iff.1 hx).1
              rwa [rens_len] at this
            have hx2 := rens_get (σ := σ) (base := base) (List.getElem?_eq_getElem hjl)
            rw [hx] at hx2
            simp only [Option.some.injEq] at hx2
            obtain ⟨u, hu, ho, hvv⟩ := h5 i' e' he' j _ (List.getElem?_eq_getElem hjl)
            subst hx2
            exact ⟨u, hu, ho, VA_up v' (g := ⟨m, g'.st⟩) (fun i hi => (hm1 i hi).symm) rfl _ u hvv⟩
      | it s pos =>
        simp only [hM, renB, BlkOk, hm1 i hi] at hB ⊢
        exact hB
      | box cells =>
        simp only [hM, renB, BlkOk, hm1 i hi] at hB ⊢
        obtain ⟨k, n, hg, c, el, fr, hh, h3, h4, h5, h6⟩ := hB
        refine ⟨k, n, hg, c, el, fr, hh, h3, by rw [h4, rens_len], fun j x hx => ?_, h6⟩
        have hjl : j < cells.length := by
          have := (List.getElem?_eq_some_iff.1 hx).1
          rwa [rens_len] at this
        have hx2 := rens_get (σ := σ) (base := base) (List.getElem?_eq_getElem hjl)
        rw [hx] at hx2
        simp only [Option.some.injEq] at hx2
        obtain ⟨u, hu, hvv⟩ := h5 j _ (List.getElem?_eq_getElem hjl)
        subst hx2
        exact ⟨u, hu, VA_up v' (g := ⟨m, g'.st⟩) (fun i hi => (hm1 i hi).symm) rfl _ u hvv⟩
    · by_cases hl : Live (L b)
      · refine BlkOk.stay (g' := ⟨m, g'.st⟩) (by rw [hoth b hb]; exact r.blk b) (hoth b hb) ev (hm2 b hb) (fun k o n hbm => ?_) (fun k o n j hbm hs => ?_)
        · obtain ⟨h1, h2⟩ := far b k o n hb hl hbm
          exact h.out.same k h1 h2
        · obtain ⟨h1, h2⟩ := far b k o n hb hl hbm
          rcases h.news k j hs with hs | hs | hs
          · exact hs
          · exact (h2 hs).elim
          · omega
      · rw [hoth b hb]
        exact BlkOk.off hl
  · have mix : ∀ b i k o n o' n', (∀ i, i < K' → b ≠ σ i) → i < K' → Live (L b) → Live (M' i) → g.m b = some (k, o, n) → g'.m i = some (k, o', n') → False := by
      intro b i k o n o' n' hb hi hl hl' hbm him
      obtain ⟨h1, h2⟩ := far b k o n hb hl hbm
      rcases h.place i k o' n' hl' him with hp | hge
      · exact h2 hp
      · omega
    intro b b' k o n o' n' hl hl' hbm hbm'
    rcases hcase b with ⟨i, hi, rfl⟩ | hb <;> rcases hcase b' with ⟨j, hj, rfl⟩ | hb'
    · simp only [hm1 i hi] at hbm
      simp only [hm1 j hj] at hbm'
      rw [v'.eq i hi] at hl
      rw [v'.eq j hj] at hl'
      rw [h.rel.inj i j k o n o' n' (Live_renB.1 hl) (Live_renB.1 hl') hbm hbm']
    · simp only [hm1 i hi] at hbm
      simp only [hm2 b' hb'] at hbm'
      rw [v'.eq i hi] at hl
      rw [hoth b' hb'] at hl'
      exact (mix b' i k o' n' o n hb' hi hl' (Live_renB.1 hl) hbm' hbm).elim
    · simp only [hm2 b hb] at hbm
      simp only [hm1 j hj] at hbm'
      rw [hoth b hb] at hl
      rw [v'.eq j hj] at hl'
      exact (mix b j k o n o' n' hb hj hl (Live_renB.1 hl') hbm hbm').elim
    · simp only [hm2 b hb] at hbm
      simp only [hm2 b' hb'] at hbm'
      rw [hoth b hb] at hl
      rw [hoth b' hb'] at hl'
      exact r.inj b b' k o n o' n' hl hl' hbm hbm'
  · intro b k o n hl hbm
    rcases hcase b with ⟨i, hi, rfl⟩ | hb
    · simp only [hm1 i hi] at hbm
      rw [v'.eq i hi] at hl
      exact (h.place i k o n (Live_renB.1 hl) hbm).imp_left (hat k)
    · simp only [hm2 b hb] at hbm
      rw [hoth b hb] at hl
      exact .inl ⟨b, o, n, trivial, hl, hbm⟩
  · intro k j hs
    rcases h.news k j hs with hs | hs | hs
    · exact .inl hs
    · exact .inr (.inl (hat k hs))
    · exact .inr (.inr hs)

/-- What a function leaves, with its garbage dropped. -/
theorem MA.exit {w' : World} {g' : Gh} {L' M' : Nat → Blk} {K K' : Nat} {σ base : Nat → Nat} (h : MA w g L w' g' L') (hL : ∀ i, K ≤ i → L i = .none) (v : ViewD σ base K' M' L') (hK : K ≤ K')
    (hid : ∀ i, i < K → M' i = .dead ∨ (σ i = i ∧ base i = 0)) (hb : ∀ i, i < K' → boxBelow K' (M' i) = true) : MA w g L w' (ghV g' σ) M' := by
  refine ⟨h.rel.view v hb, ⟨h.ev.keep, fun i => ?_⟩, h.out, fun i k o n hl hm => ?_, h.news⟩
  · rcases Nat.lt_or_ge i K with hi | hi
    · rcases hid i hi with hd | ⟨h1, h2⟩
      · rw [hd]
        cases hx : L i with
        | none => trivial
        | dead => simp [BlkLe]
        | arr => simp [BlkLe]
        | box c => simp [BlkLe]
        | it s c => simp [BlkLe]
      · rcases v.eq i (by omega) with hd | he
        · rw [hd]
          cases hx : L i with
          | none => trivial
          | dead => simp [BlkLe]
          | arr => simp [BlkLe]
          | box c => simp [BlkLe]
          | it s c => simp [BlkLe]
        · have hle := h.ev.le i
          rw [h1] at he
          rw [he] at hle
          have : (ghV g' σ).m i = g'.m i := by simp only [ghV, h1]
          rw [this]
          revert hle
          cases hx : L i <;> cases hy : M' i <;> simp only [BlkLe, renB, h2, Nat.add_zero] <;> intro hle <;> first | trivial | exact hle | simp at hle
    · rw [hL i hi]; simp [BlkLe]
  · have hl' : Live (L' (σ i)) := by rw [(v.live hl).2]; exact Live_renB.2 hl
    exact h.place (σ i) k o n hl' hm
end
end Go.Pl
