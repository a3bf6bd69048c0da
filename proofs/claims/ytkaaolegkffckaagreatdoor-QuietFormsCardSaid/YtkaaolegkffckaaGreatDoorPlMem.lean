/- Loads, stores and new variables of the model, in the plain machine's words. -/
import Derived.Test.YtkaaolegkffckaaGreatDoorPlMoves
set_option linter.unusedVariables false
set_option linter.unusedSimpArgs false
namespace Go.Pl

inductive TD where
  | bool
  | int (k : IntKind)
  | str
  | slc (e : TypeId)
  | stc (fs : List (Nat × TypeId))
  | arr (n : Nat) (e : TypeId)
  | ptr
  | ifc
  | oth

def tdOf : TypeDesc → TD
  | .bool => .bool
  | .int k => .int k
  | .string => .str
  | .slice e => .slc e
  | .struct fs => .stc (fs.toList.map fun f => (f.offset, f.type))
  | .array n e => .arr n e
  | .pointer _ => .ptr
  | .interface _ => .ifc
  | _ => .oth

def TD.agg : TD → Bool
  | .stc _ | .arr .. => true
  | _ => false

/-- What is known of a type. -/
structure TI where
  td : TD
  size : Nat
  bytes : Nat
  zero : Value

structure TIok (P : Program) (t : TypeId) (ti : TI) : Prop where
  ex : ∃ i d, P.info? t = some i ∧ i.size = ti.size ∧ i.bytes = ti.bytes ∧ i.zero = some ti.zero ∧ P.underlying t = some d ∧ tdOf d = ti.td
  zs : ti.zero.cells.size = ti.size
  one : ti.td.agg = false → ti.size = 1

section
variable {P : Program} {t : TypeId} {ti : TI} {w : World}

theorem TIok.size_run (h : TIok P t ti) (w : World) : (sizeOf t).run P w = .ok ti.size w := by
  obtain ⟨i, d, hi, hs, _⟩ := h.ex
  simp [sizeOf, typeInfo, hi, hs]
theorem TIok.zero_run (h : TIok P t ti) (w : World) : (zeroValue t).run P w = .ok ti.zero w := by
  obtain ⟨i, d, hi, hs, hb, hz, _⟩ := h.ex
  simp [zeroValue, typeInfo, hi, hz]
theorem TIok.und (h : TIok P t ti) : ∃ d, P.underlying t = some d ∧ tdOf d = ti.td := by
  obtain ⟨i, d, _, _, _, _, hd, he⟩ := h.ex
  exact ⟨d, hd, he⟩
theorem TIok.slc (h : TIok P t ti) {e : TypeId} (he : ti.td = .slc e) : P.underlying t = some (.slice e) := by
  obtain ⟨d, hd, h2⟩ := h.und
  rw [he] at h2
  cases d <;> simp [tdOf] at h2
  subst h2; exact hd
theorem TIok.str (h : TIok P t ti) (he : ti.td = .str) : P.underlying t = some .string := by
  obtain ⟨d, hd, h2⟩ := h.und
  rw [he] at h2
  cases d <;> simp [tdOf] at h2
  exact hd
theorem TIok.int (h : TIok P t ti) {k : IntKind} (he : ti.td = .int k) : P.underlying t = some (.int k) := by
  obtain ⟨d, hd, h2⟩ := h.und
  rw [he] at h2
  cases d <;> simp [tdOf] at h2
  subst h2; exact hd
theorem TIok.arr (h : TIok P t ti) {n : Nat} {e : TypeId} (he : ti.td = .arr n e) : P.underlying t = some (.array n e) := by
  obtain ⟨d, hd, h2⟩ := h.und
  rw [he] at h2
  cases d <;> simp [tdOf] at h2
  obtain ⟨rfl, rfl⟩ := h2; exact hd
theorem TIok.stc (h : TIok P t ti) {fs : List (Nat × TypeId)} (he : ti.td = .stc fs) : ∃ as, P.underlying t = some (.struct as) ∧ as.toList.map (fun f => (f.offset, f.type)) = fs := by
  obtain ⟨d, hd, h2⟩ := h.und
  rw [he] at h2
  cases d <;> simp [tdOf] at h2
  exact ⟨_, hd, h2⟩
theorem TIok.agg_run (h : TIok P t ti) (w : World) : (isAgg t).run P w = .ok ti.td.agg w := by
  obtain ⟨d, hd, h2⟩ := h.und
  rw [← h2]
  cases d <;> simp [isAgg, run_underlying hd, tdOf, TD.agg]

/-- A variable's value of its cells. -/
def mkV (ti : TI) (us : List Value) : Value := if ti.td.agg then .agg us.toArray else us.headD (.tuple #[])

theorem add_lit' (k o j : Nat) : (⟨k, o, none⟩ : Addr).add j = ⟨k, o + j, none⟩ := by unfold Addr.add; split <;> simp_all

theorem TIok.load (h : TIok P t ti) {k o : Nat} {us : List Value} (hl : us.length = ti.size) (hc : ∀ (j : Nat) u, us[j]? = some u → w.cell? ⟨k, o + j, none⟩ = some u) :
    (loadVar t ⟨k, o, none⟩).run P w = .ok (mkV ti us) w := by
  unfold loadVar mkV
  cases ha : ti.td.agg with
  | true =>
    have hr := run_loadCells_list (P := P) w ⟨k, o, none⟩ us (fun j v hv => by rw [add_lit']; exact hc j v hv)
    rw [hl] at hr
    simp [h.agg_run, ha, h.size_run, hr]
  | false =>
    have h1 := h.one ha
    obtain ⟨u, rfl⟩ : ∃ u, us = [u] := by
      match us, hl.trans h1 with
      | [u], _ => exact ⟨u, rfl⟩
    have := hc 0 u rfl
    simp only [Nat.add_zero] at this
    simp [h.agg_run, ha, run_load, this]

/-- A value that may lie in one cell. -/
def one1 (u : Value) : Prop := u.oneCell' = true

theorem run_storeRow (k o : Nat) (t : TypeId) (fr : Nat × Nat) : ∀ (vs : List Value) (i : Nat) (cur : Array Value) (w : World), w.heap[k]? = some (.cells cur t fr) → o + i + vs.length ≤ cur.size → NoFz cur fr → (∀ v ∈ vs, v.oneCell' = true) →
    (storeCells ⟨k, o, none⟩ vs i).run P w = .ok () (w.setRow k (cur.toList.take (o + i) ++ vs ++ cur.toList.drop (o + i + vs.length)).toArray)
  | [], i, cur, w, hg, _, _, _ => by
    simp only [storeCells, List.append_nil, List.length_nil, Nat.add_zero, List.take_append_drop, Array.toArray_toList]
    rw [setRow_self w k cur t fr hg]
    rfl
  | v :: rest, i, cur, w, hg, hl, hf, h1 => by
    have hi : o + i < cur.size := by simp at hl; omega
    have hcell : w.cell? ⟨k, o + i, none⟩ = some cur[o + i] := by simp [World.cell?, hg, hi]
    have hfro : w.frozen? ⟨k, o + i, none⟩ = false := by
      have := hf (o + i) hi
      simp [World.frozen?, hg]
      omega
    have hst : (store ((⟨k, o, none⟩ : Addr).add i) v).run P w = .ok () (w.setRow k (cur.setIfInBounds (o + i) v)) := by
      rw [add_lit', run_store P w _ v _ (h1 v (by simp)), hcell]
      simp [hfro, setCell_eq_setRow w k (o + i) cur t fr v hg]
    have ih := run_storeRow k o t fr rest (i + 1) (cur.setIfInBounds (o + i) v) (w.setRow k (cur.setIfInBounds (o + i) v)) (setRow_heap w k cur _ t _ hg) (by simp at hl ⊢; omega) (by intro j hj; exact hf j (by simpa using hj)) (fun x hx => h1 x (by simp [hx]))
    simp only [storeCells, Sem.run_bind, hst, Result.andThen_ok, ih, setRow_setRow]
    congr 3
    have e := list_seg_step cur.toList (o + i) v rest (by simp at hl ⊢; omega)
    simpa [Array.toList_setIfInBounds, Nat.add_assoc] using e

theorem get_seg (l vs : List Value) (o : Nat) (ho : o + vs.length ≤ l.length) (j : Nat) :
    (l.take o ++ vs ++ l.drop (o + vs.length))[j]? = if o ≤ j ∧ j < o + vs.length then vs[j - o]? else l[j]? := by
  simp only [List.getElem?_append, List.length_append, List.length_take, List.getElem?_take, List.getElem?_drop]
  have : min o l.length = o := by omega
  rw [this]
  by_cases h1 : j < o
  · rw [if_pos (by omega), if_pos h1, if_pos h1, if_neg (by omega)]
  · by_cases h2 : j < o + vs.length
    · rw [if_pos h2, if_neg h1, if_pos ⟨by omega, h2⟩]
    · rw [if_neg h2, if_neg (by omega)]
      congr 1
      omega

/-- What a store of some cells does. -/
theorem store_cells {k o : Nat} {cur : Array Value} {el : TypeId} {fr : Nat × Nat} (hg : w.heap[k]? = some (.cells cur el fr)) (vs : List Value) (hl : o + vs.length ≤ cur.size) (hf : NoFz cur fr) (h1 : ∀ v ∈ vs, v.oneCell' = true) :
    ∃ (w' : World) (c' : Array Value), (storeCells ⟨k, o, none⟩ vs).run P w = .ok () w' ∧ Rew w w' k c' el fr ∧ c'.size = cur.size ∧ NoFz c' fr ∧
      ∀ j : Nat, c'[j]? = if o ≤ j ∧ j < o + vs.length then vs[j - o]? else cur[j]? := by
  have hs := run_storeRow (P := P) k o el fr vs 0 cur w hg (by simpa using hl) hf h1
  simp only [Nat.add_zero] at hs
  have hlen : (cur.toList.take o ++ vs ++ cur.toList.drop (o + vs.length)).toArray.size = cur.size := by
    simp only [List.size_toArray, List.length_append, List.length_take, List.length_drop, Array.length_toList]; omega
  refine ⟨_, _, hs, Rew.setRow hg, hlen, ?_, fun j => ?_⟩
  · intro j hj
    exact hf j (by rw [← hlen]; exact hj)
  · have := get_seg cur.toList vs o (by simpa using hl) j
    simpa using this

theorem TIok.store (h : TIok P t ti) {k o : Nat} {cur : Array Value} {el : TypeId} {fr : Nat × Nat} (hg : w.heap[k]? = some (.cells cur el fr)) (x : Value) (hx : x.cells.size = ti.size) (hl : o + ti.size ≤ cur.size) (hf : NoFz cur fr)
    (h1 : ∀ v ∈ x.cells.toList, v.oneCell' = true) :
    ∃ (w' : World) (c' : Array Value), (storeVar t ⟨k, o, none⟩ x).run P w = .ok () w' ∧ Rew w w' k c' el fr ∧ c'.size = cur.size ∧ NoFz c' fr ∧
      ∀ j : Nat, c'[j]? = if o ≤ j ∧ j < o + ti.size then x.cells.toList[j - o]? else cur[j]? := by
  have hlen : x.cells.toList.length = ti.size := by simpa using hx
  obtain ⟨w', c', hr, h2⟩ := store_cells (P := P) hg x.cells.toList (by rw [hlen]; exact hl) hf h1
  rw [hlen] at h2
  exact ⟨w', c', by simp [storeVar, h.size_run, hx, hr], h2⟩

theorem TIok.box (w : World) (t : TypeId) (v : Value) : (Instr.box t v).run P w = .ok (.pointer (some ⟨w.heap.size, 0, none⟩)) (w.alloc (.cells v.cells t)) := by
  simp [Instr.box, newVar, newRow]
theorem TIok.alloc (h : TIok P t ti) (w : World) : (Instr.alloc t true (.tuple #[])).run P w = .ok (.pointer (some ⟨w.heap.size, 0, none⟩)) (w.alloc (.cells ti.zero.cells t)) := by
  simp [Instr.alloc, newVar, newRow, h.zero_run]
end
end Go.Pl
