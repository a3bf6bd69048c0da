/- Values put together out of parts. -/
import Derived.Test.YtkaaolegkffckaaGreatDoorPlOps2
import Derived.Laws.Tables
set_option linter.unusedVariables false
set_option linter.unusedSimpArgs false
namespace Go.Pl

/-- Parts laid into cells. -/
def aFill (pl : Nat → Option (Nat × Nat)) : List AV → List (Nat × AV) → Option (List AV)
  | cs, [] => some cs
  | cs, (i, x) :: rest => match pl i, cellsOf x with
    | some (off, size), some ds => if ds.length = size ∧ off + ds.length ≤ cs.length then aFill pl (wr cs off ds) rest else none
    | _, _ => none

theorem foldl_put (off : Nat) : ∀ (ds : List Value) (j : Nat) (cs : Array Value), off + j + ds.length ≤ cs.size →
    (ds.zipIdx j).foldl (fun cs (x : Value × Nat) => cs.setIfInBounds (off + x.2) x.1) cs = (wr cs.toList (off + j) ds).toArray
  | [], j, cs, _ => by simp [wr]
  | d :: ds, j, cs, h => by
    simp only [List.length_cons] at h
    simp only [List.zipIdx_cons, List.foldl_cons]
    rw [foldl_put off ds (j + 1) _ (by simp; omega)]
    apply Array.ext'
    have e := list_seg_step cs.toList (off + j) d ds (by simp; omega)
    simpa [wr, Array.toList_setIfInBounds, Nat.add_assoc] using e

theorem fill_step (off : Nat) (u : Value) (ds : List Value) (hu : u.cells = ds.toArray) (cs : Array Value) (h : off + ds.length ≤ cs.size) :
    u.cells.zipIdx.foldl (fun cs (x : Value × Nat) => cs.setIfInBounds (off + x.2) x.1) cs = (wr cs.toList off ds).toArray := by
  rw [hu]
  have := foldl_put off ds 0 cs (by simpa using h)
  simp only [Nat.add_zero] at this
  rw [← this, ← Array.foldl_toList]
  simp

theorem VAs_wr {w : World} {g : Gh} {L : Nat → Blk} {cs ds : List AV} {us vs : List Value} (h : VAs w g L cs us) (k : VAs w g L ds vs) (o : Nat) (ho : o + ds.length ≤ cs.length) : VAs w g L (wr cs o ds) (wr us o vs) := by
  have h1 := VAs_len h
  have h2 := VAs_len k
  refine VAs_of (by rw [wr_length _ _ _ ho, wr_length _ _ _ (by omega), h1]) fun j x hx => ?_
  rw [wr_get _ _ _ ho] at hx
  rw [wr_get _ _ _ (by omega), h2]
  split at hx
  · rename_i hj; rw [if_pos hj]; exact VAs_get k _ x hx
  · rename_i hj; rw [if_neg hj]; exact VAs_get h _ x hx

/-- Parts and what stands for them. -/
def PtOk (w : World) (g : Gh) (L : Nat → Blk) : List (Nat × AV) → List (Nat × Value) → Prop
  | [], us => us = []
  | (i, x) :: ps, us => ∃ u us', us = (i, u) :: us' ∧ VA w g L x u ∧ PtOk w g L ps us'

theorem aFill_ok {w : World} {g : Gh} {L : Nat → Blk} {pl : Nat → Option (Nat × Nat)} : ∀ {ps : List (Nat × AV)} {cs cs' : List AV} {us : List Value} {ups : List (Nat × Value)},
    aFill pl cs ps = some cs' → VAs w g L cs us → PtOk w g L ps ups → ∃ us', Instr.fill pl us.toArray ups = some us'.toArray ∧ VAs w g L cs' us'
  | [], cs, cs', us, ups, h, hv, hp => by
    simp [aFill] at h; subst h
    simp only [PtOk] at hp; subst hp
    exact ⟨us, rfl, hv⟩
  | (i, x) :: ps, cs, cs', us, ups, h, hv, hp => by
    simp only [PtOk] at hp
    obtain ⟨u, ups', rfl, hx, hps⟩ := hp
    simp only [aFill] at h
    split at h
    · rename_i off size ds hpl hds
      split at h
      · rename_i hc
        obtain ⟨vs, hvs, hvd, _⟩ := cellsOf_ok hds hx
        have hl := VAs_len hv
        have hl2 := VAs_len hvd
        obtain ⟨us', h1, h2⟩ := aFill_ok h (VAs_wr hv hvd off hc.2) hps
        refine ⟨us', ?_, h2⟩
        have hsz : u.cells.size = size := by rw [hvs]; simp; omega
        have hst := fill_step off u vs hvs us.toArray (by simp; omega)
        have hc' : ¬ (u.cells.size ≠ size ∨ off + u.cells.size > us.toArray.size) := by
          rw [hvs]; simp; omega
        simp only [Instr.fill, hpl]
        rw [if_neg (by simpa using hc')]
        simp only at hst
        rw [← h1]
        congr 1
      · simp at h
    · simp at h

def placesOf (T : Tab) : List (Nat × TypeId) → Option (List (Nat × Nat))
  | [] => some []
  | (off, ty) :: fs => match T ty, placesOf T fs with
    | some ti, some rest => some ((off, ti.size) :: rest)
    | _, _ => none

theorem placesOf_ok {P : Program} {T : Tab} (hT : TabOk P T) : ∀ {fs : List Field} {pl : List (Nat × Nat)}, placesOf T (fs.map fun f => (f.offset, f.type)) = some pl →
    fs.mapM (fun f => (P.info? f.type).map fun i => (f.offset, i.size)) = some pl
  | [], pl, h => by simp [placesOf] at h; subst h; simp
  | f :: fs, pl, h => by
    simp only [List.map_cons, placesOf] at h
    split at h
    · rename_i ti rest h1 h2
      simp at h; subst h
      obtain ⟨i, d, hi, hs, _⟩ := (hT _ _ h1).ex
      have := placesOf_ok hT h2
      simp [List.mapM_cons, hi, this, hs]
    · simp at h

/-- The cells of a type's zero value. -/
def zeroCs (ti : TI) : List AV := ti.zero.cells.toList.map cst1

def aBuild (T : Tab) (t : TypeId) (ps : List (Nat × AV)) : Option AV :=
  match T t with
  | some ti => (match ti.td with
    | .stc fs => (match placesOf T fs with
      | some pl => (aFill (pl[·]?) (zeroCs ti) ps).map .agg
      | none => none)
    | .arr _ e => (match T e with
      | some te => (aFill (fun i => some (i * te.size, te.size)) (zeroCs ti) ps).map .agg
      | none => none)
    | _ => none)
  | none => none

theorem aBuild_ok {P : Program} {T : Tab} (hT : TabOk P T) {w : World} {g : Gh} {L : Nat → Blk} {t : TypeId} {ps : List (Nat × AV)} {ups : List (Nat × Value)} {y : AV} (h : aBuild T t ps = some y) (hp : PtOk w g L ps ups) :
    ∃ v, (Instr.build t ups.toArray).run P w = .ok v w ∧ VA w g L y v := by
  unfold aBuild at h
  split at h
  · rename_i ti hTt
    obtain ⟨i, d, hi, hs, hb, hz, hd, he⟩ := (hT t _ hTt).ex
    split at h
    · rename_i fs htd
      obtain ⟨as, hu, hfs⟩ := (hT t _ hTt).stc htd
      split at h
      · rename_i pl hpl
        obtain ⟨cs', hc, rfl⟩ := Option.map_eq_some_iff.1 h
        obtain ⟨us', h1, h2⟩ := aFill_ok hc (cst1s_ok ti.zero.cells.toList) hp
        refine ⟨.agg us'.toArray, run_build w t _ _ ?_, by simp only [VA]; exact ⟨us', rfl, h2⟩⟩
        have hpm := placesOf_ok hT (fs := as.toList) (pl := pl) (by rw [hfs]; exact hpl)
        unfold Program.built
        simp only [hi, hu, hz, hpm]
        simpa using h1
      · simp at h
    · rename_i n e htd
      have hu := (hT t _ hTt).arr htd
      split at h
      · rename_i te hte
        obtain ⟨ie, de, hie, hse, _⟩ := (hT e _ hte).ex
        obtain ⟨cs', hc, rfl⟩ := Option.map_eq_some_iff.1 h
        obtain ⟨us', h1, h2⟩ := aFill_ok hc (cst1s_ok ti.zero.cells.toList) hp
        refine ⟨.agg us'.toArray, run_build w t _ _ ?_, by simp only [VA]; exact ⟨us', rfl, h2⟩⟩
        unfold Program.built
        simp only [hi, hu, hz, hie, hse]
        simpa using h1
      · simp at h
    · simp at h
  · simp at h

end Go.Pl
