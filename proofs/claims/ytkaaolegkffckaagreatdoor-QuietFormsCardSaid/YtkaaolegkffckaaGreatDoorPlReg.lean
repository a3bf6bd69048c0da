/- A region: its operations one after the other, and in any order that the edges allow. -/
import Derived.Test.YtkaaolegkffckaaGreatDoorPlCongr
set_option linter.unusedVariables false
set_option linter.unusedSimpArgs false
namespace Go.Pl

def All : Nat → Prop := fun _ => True

/-- A move, of which one does not say what it may have turned. -/
structure MA (w : World) (g : Gh) (L : Nat → Blk) (w' : World) (g' : Gh) (L' : Nat → Blk) : Prop where
  rel : Rel w' g' L'
  ev : Ev w g L w' g' L'
  out : Out w w' (At g L All)
  place : ∀ b k o n, Live (L' b) → g'.m b = some (k, o, n) → At g L All k ∨ w.heap.size ≤ k
  news : ∀ k j, g'.st k j → g.st k j ∨ At g L All k ∨ w.heap.size ≤ k

theorem Mv.all {w g L w' g' L'} {W : Nat → Prop} (h : Mv w g L W w' g' L') : MA w g L w' g' L' :=
  have k := h.mono (W' := All) fun _ _ => trivial
  ⟨k.rel, k.ev, k.out, fun b i o n hl hm => (k.place b i o n hl hm).imp_left fun ⟨o', n', a, c⟩ => ⟨b, o', n', trivial, a, c⟩, k.news⟩

theorem MA.refl {w g L} (h : Rel w g L) : MA w g L w g L := (Mv.refl h All).all

theorem MA.then {w g L w' g' L' w'' g'' L''} (h : MA w g L w' g' L') (k : MA w' g' L' w'' g'' L'') : MA w g L w'' g'' L'' := by
  have hat : ∀ i, i < w.heap.size → At g' L' All i → At g L All i := by
    rintro i hi ⟨b, o, n, _, hl, hm⟩
    rcases h.place b i o n hl hm with h1 | hge
    · exact h1
    · omega
  have hup : ∀ i, At g' L' All i ∨ w'.heap.size ≤ i → At g L All i ∨ w.heap.size ≤ i := fun i hx => by
    by_cases hi : i < w.heap.size
    · rcases hx with hx | hx
      · exact .inl (hat i hi hx)
      · have := h.out.size; omega
    · exact .inr (by omega)
  refine ⟨k.rel, h.ev.trans k.ev, h.out.trans k.out hat, fun b i o n hl hm => hup i (k.place b i o n hl hm), fun i j hs => ?_⟩
  rcases k.news i j hs with hs | hs
  · exact h.news i j hs
  · exact .inr (hup i hs)

/-- An operation, with the value that it puts and the blocks that it turns. -/
def OpOk (X : Env) (o : Oper) (tm : List AV) (L : Nat → Blk) (y : AV) (us : List (Nat × Blk)) : Prop :=
  ∀ (w : World) (g : Gh) (a : Act), Rel w g L → GlOk X w g.st → TmOk w g L tm a.tmps →
    ∀ (next : Act → World → Prop) (Q : Exit → Act → World → Prop),
      (∀ v w' g', MA w g L w' g' (upds L us) → VA w' g' (upds L us) y v → next (a.put o.dst v) w') →
      o.wp X.P a w next Q

/-- What a list of updates says of one name. -/
def wrOf (b : Nat) : List (Nat × Blk) → Option Blk
  | [] => none
  | (c, x) :: us => match wrOf b us with
    | some y => some y
    | none => if c = b then some x else none

theorem upds_get (b : Nat) : ∀ (us : List (Nat × Blk)) (L : Nat → Blk), upds L us b = (wrOf b us).getD (L b)
  | [], L => rfl
  | (c, x) :: us, L => by
    simp only [upds, upds_get b us, wrOf]
    cases wrOf b us with
    | some y => rfl
    | none =>
      by_cases h : c = b
      · subst h; simp
      · simp [h, upd_other _ _ (Ne.symm h)]

theorem wrOf_mem (b : Nat) : ∀ (us : List (Nat × Blk)), wrOf b us ≠ none → b ∈ us.map (·.1)
  | [], h => absurd rfl h
  | (c, x) :: us, h => by
    simp only [wrOf] at h
    cases hw : wrOf b us with
    | some y => exact List.mem_cons_of_mem _ (wrOf_mem b us (by simp [hw]))
    | none =>
      simp only [hw] at h
      by_cases hc : c = b
      · subst hc; simp
      · simp [hc] at h

theorem OpOk.of_step {X : Env} {o : Oper} {tm : List AV} {L : Nat → Blk} {y : AV} {us : Us}
    (h : ∀ w g a, Rel w g L → GlOk X w g.st → TmOk w g L tm a.tmps → StepOk X.P o a w g L y us) : OpOk X o tm L y us := by
  intro w g a r hg ht next Q hn
  obtain ⟨n, v, w', g', hr, hv, hm, hy⟩ := h w g a r hg ht
  unfold Oper.wp
  rw [hr]
  have := hn v w' g' hm.all hy
  rcases hv with rfl | ⟨rfl, rfl⟩
  · exact this
  · exact this

/-- What an operation did. -/
structure Rec where
  y : AV
  us : List (Nat × Blk)
  rd : List Nat

def yieldA (ops : Array Oper) (tm : List AV) (j : Nat) : Option (Option Bool) :=
  match (ops[j]?).bind (·.dst) with
  | none => some none
  | some t => match tm[t]? with
    | some (.p (.v (.bool b))) => some (some b)
    | some (.tup []) => some none
    | _ => none

def aWanted (ops : Array Oper) (tm : List AV) (o : Oper) : Option Bool :=
  match o.guard with
  | none => some true
  | some (j, want) => match yieldA ops tm j with
    | some r => some (r == some want)
    | none => none

theorem aWanted_ok {w g L} {ops : Array Oper} {tm : List AV} {o : Oper} {a : Act} {b : Bool} (ht : TmOk w g L tm a.tmps) (h : aWanted ops tm o = some b) : Region.wanted o (yielded ops a.tmps) = b := by
  unfold aWanted at h
  unfold Region.wanted
  split at h
  · rename_i hg; simp only [hg]; simpa using h
  · rename_i j want hg
    simp only [hg]
    split at h
    · rename_i r hy
      have : yielded ops a.tmps j = r := by
        unfold yieldA at hy
        unfold yielded
        split at hy
        · rename_i hn; simp at hy; subst hy; simp [hn]
        · rename_i t hn
          split at hy
          · rename_i b hb
            simp at hy; subst hy
            obtain ⟨u, hu, hv⟩ := VAs_get ht t _ hb
            simp only [VA, VP] at hv
            subst hv
            have : a.tmps[t]? = some (.bool b) := by simpa using hu
            simp [hn, this]
          · rename_i hb
            simp at hy; subst hy
            obtain ⟨u, hu, hv⟩ := VAs_get ht t _ hb
            simp only [VA, VAs] at hv
            obtain ⟨us, rfl, rfl⟩ := hv
            have : a.tmps[t]? = some (.tuple #[]) := by simpa using hu
            simp [hn, this]
          · simp at hy
      rw [this]; simpa using h
    · simp at h

def putA (tm : List AV) (dst : Option Tmp) (y : AV) : List AV :=
  match dst with
  | some d => tm.set d y
  | none => tm

theorem VAs_set {w g L} {y : AV} {v : Value} (hy : VA w g L y v) : ∀ {tm : List AV} {us : List Value} (d : Nat), VAs w g L tm us → VAs w g L (tm.set d y) (us.set d v)
  | [], us, d, h => by simp only [VAs] at h; subst h; simp [VAs]
  | c :: cs, us, d, h => by
    simp only [VAs] at h
    obtain ⟨u, us', rfl, h1, h2⟩ := h
    cases d with
    | zero => simp only [List.set_cons_zero, VAs]; exact ⟨v, us', rfl, hy, h2⟩
    | succ d => simp only [List.set_cons_succ, VAs]; exact ⟨u, _, rfl, h1, VAs_set hy d h2⟩

theorem put_ok {w g L} {tm : List AV} {a : Act} {y : AV} {v : Value} (dst : Option Tmp) (ht : TmOk w g L tm a.tmps) (hy : VA w g L y v) : TmOk w g L (putA tm dst y) (a.put dst v).tmps := by
  cases dst with
  | none => exact ht
  | some d =>
    unfold TmOk putA Act.put
    simp only [Array.toList_setIfInBounds]
    exact VAs_set hy d ht

theorem undef_ok {w g L} : VA w g L undefA undef := by simp only [undefA, VA, VAs]; exact ⟨[], rfl, rfl⟩

/-- A record holds wherever its operands and the blocks that it looks at are the same. -/
def RecOk (X : Env) (ops : Array Oper) (o : Oper) (tm : List AV) (L : Nat → Blk) (r : Rec) : Prop :=
  (aWanted ops tm o = some true ∧ ∀ tm2 L2, (∀ x ∈ o.op.operands, aEval X tm2 x = aEval X tm x) → (∀ b ∈ r.rd, L2 b = L b) → OpOk X o tm2 L2 r.y r.us) ∨
  (aWanted ops tm o = some false ∧ r.y = undefA ∧ r.us = [])

/-- Records one after the other. -/
inductive Chain (X : Env) (ops : Array Oper) : List Oper → List AV → (Nat → Blk) → List Rec → List AV → (Nat → Blk) → Prop
  | nil {tm L} : Chain X ops [] tm L [] tm L
  | cons {o os tm L r rs tm' L'} : RecOk X ops o tm L r → Chain X ops os (putA tm o.dst r.y) (upds L r.us) rs tm' L' → Chain X ops (o :: os) tm L (r :: rs) tm' L'

/-- What holds behind some code. -/
def Post (e : Exit) (tm' : List AV) (L' : Nat → Blk) (w : World) (g : Gh) (L : Nat → Blk) (ds : List Deferred) : Exit → Act → World → Prop := fun e' a' w' =>
  e' = e ∧ a'.defers = ds ∧ ∃ g', MA w g L w' g' L' ∧ TmOk w' g' L' tm' a'.tmps

def CodeOk (X : Env) (c : Code) (tm : List AV) (L : Nat → Blk) (e : Exit) (tm' : List AV) (L' : Nat → Blk) : Prop :=
  ∀ (w : World) (g : Gh) (a : Act), Rel w g L → GlOk X w g.st → TmOk w g L tm a.tmps → c.wp X.P (Post e tm' L' w g L a.defers) a w

theorem RecOk.wp {X : Env} {ops : Array Oper} {o : Oper} {tm tm2 : List AV} {L L2 : Nat → Blk} {r : Rec} (h : RecOk X ops o tm L r)
    (he : ∀ x ∈ o.op.operands, aEval X tm2 x = aEval X tm x) (hw : aWanted ops tm2 o = aWanted ops tm o) (hb : ∀ b ∈ r.rd, L2 b = L b)
    {w : World} {g : Gh} {a : Act} (rel : Rel w g L2) (hg : GlOk X w g.st) (ht : TmOk w g L2 tm2 a.tmps) {Q : Exit → Act → World → Prop} {K : Act → World → Prop} {i : Nat} (hi : ops[i]? = some o)
    (hn : ∀ v w' g', MA w g L2 w' g' (upds L2 r.us) → TmOk w' g' (upds L2 r.us) (putA tm2 o.dst r.y) (a.put o.dst v).tmps → K (a.put o.dst v) w') : wpOp X.P ops Q i K a w := by
  unfold wpOp
  simp only [hi]
  rcases h with ⟨h1, h2⟩ | ⟨h1, h2, h3⟩
  · rw [if_pos (aWanted_ok ht (hw.trans h1))]
    exact .inl (h2 tm2 L2 he hb w g a rel hg ht K Q fun v w' g' hm hy => hn v w' g' hm (put_ok o.dst (ht.ev hm.ev) hy))
  · rw [if_neg (by rw [aWanted_ok ht (hw.trans h1)]; simp)]
    have := hn undef w g (by rw [h3]; exact MA.refl rel) (by rw [h2, h3]; exact put_ok o.dst ht undef_ok)
    exact this

theorem put_defers (a : Act) (d : Option Tmp) (v : Value) : (a.put d v).defers = a.defers := by cases d <;> rfl

theorem chain_text {X : Env} {ops : Array Oper} : ∀ (os : List Oper) (i : Nat) {tm L rs tm' L'}, Chain X ops os tm L rs tm' L' → (∀ j, (hj : j < os.length) → ops[i + j]? = some os[j]) →
    ∀ {w g a w0 g0 L0 ds}, MA w0 g0 L0 w g L → GlOk X w g.st → TmOk w g L tm a.tmps → a.defers = ds →
    wpOps X.P ops (Post .normal tm' L' w0 g0 L0 ds) (List.range' i os.length) a w := by
  intro os
  induction os with
  | nil =>
    intro i tm L rs tm' L' h _ w g a w0 g0 L0 ds hm hg ht hd
    cases h
    simp only [List.length_nil, List.range'_zero, wpOps]
    exact ⟨rfl, hd, g, hm, ht⟩
  | cons o os ih =>
    intro i tm L rs tm' L' h hi w g a w0 g0 L0 ds hm hg ht hd
    cases h with
    | cons h1 h2 =>
      rename_i r rs
      simp only [List.length_cons, List.range'_succ]
      rw [wpOps_cons]
      refine h1.wp (fun _ _ => rfl) rfl (fun _ _ => rfl) hm.rel hg ht (by have := hi 0 (by simp); rw [Nat.add_zero] at this; exact this) fun v w' g' hm' ht' => ?_
      refine ih (i + 1) h2 (fun j hj => ?_) (hm.then hm') (hg.keep hm'.ev.keep) ht' (by rw [put_defers]; exact hd)
      have := hi (j + 1) (by simp; omega)
      rw [show i + 1 + j = i + (j + 1) by omega, this]
      simp

/-- A region in the order of its text. -/
theorem region_text {X : Env} {id : Nat} {ops : Array Oper} {tm L rs tm' L'} (h : Chain X ops ops.toList tm L rs tm' L') : CodeOk X (.region id ops false) tm L .normal tm' L' := by
  intro w g a r hg ht
  refine wp_region ?_
  have := chain_text ops.toList 0 h (fun j hj => by
    have : j < ops.size := by simpa using hj
    simp [this]) (MA.refl r) hg ht rfl
  simpa [List.range_eq_range'] using this

end Go.Pl
