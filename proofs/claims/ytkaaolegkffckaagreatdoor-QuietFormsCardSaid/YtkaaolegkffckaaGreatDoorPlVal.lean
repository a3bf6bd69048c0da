/- Reading, writing and settling cells in the plain machine, and that the model does the same. -/
import Derived.Test.YtkaaolegkffckaaGreatDoorPlMem
set_option linter.unusedVariables false
set_option linter.unusedSimpArgs false
namespace Go.Pl

/-- May it lie in one cell? -/
def one : AV → Bool
  | .agg _ | .tup _ | .any => false
  | .p (.v (.agg _)) | .p (.v (.tuple _)) => false
  | _ => true

/-- The cells of a value. -/
def cellsOf : AV → Option (List AV)
  | .agg cs => if cs.all one then some cs else none
  | .tup _ => none
  | .any => none
  | .p (.v (.agg _)) => none
  | .p (.v (.tuple _)) => none
  | x => some [x]

section
variable {P : Program} {w : World} {g : Gh} {L : Nat → Blk}

theorem VAs_len : ∀ {cs : List AV} {us : List Value}, VAs w g L cs us → us.length = cs.length
  | [], us, h => by simp only [VAs] at h; simp [h]
  | c :: cs, us, h => by
    simp only [VAs] at h
    obtain ⟨u, us', rfl, _, h2⟩ := h
    simp [VAs_len h2]

theorem VAs_get : ∀ {cs : List AV} {us : List Value}, VAs w g L cs us → ∀ (j : Nat) x, cs[j]? = some x → ∃ u, us[j]? = some u ∧ VA w g L x u
  | [], us, _, j, x, hx => by simp at hx
  | c :: cs, us, h, j, x, hx => by
    simp only [VAs] at h
    obtain ⟨u, us', rfl, h1, h2⟩ := h
    cases j with
    | zero => simp at hx; subst hx; exact ⟨u, rfl, h1⟩
    | succ j => exact VAs_get h2 j x (by simpa using hx)

theorem VAs_of : ∀ {cs : List AV} {us : List Value}, us.length = cs.length → (∀ (j : Nat) x, cs[j]? = some x → ∃ u, us[j]? = some u ∧ VA w g L x u) → VAs w g L cs us
  | [], us, hl, _ => by
    simp only [VAs]
    exact List.eq_nil_of_length_eq_zero hl
  | c :: cs, [], hl, _ => by simp at hl
  | c :: cs, u :: us, hl, h => by
    simp only [VAs]
    refine ⟨u, us, rfl, ?_, VAs_of (by simpa using hl) fun j x hx => ?_⟩
    · obtain ⟨u', hu, hv⟩ := h 0 c rfl
      simp at hu; subst hu; exact hv
    · simpa using h (j + 1) x (by simpa using hx)

theorem VAs_append {cs ds : List AV} {us vs : List Value} (h : VAs w g L cs us) (k : VAs w g L ds vs) : VAs w g L (cs ++ ds) (us ++ vs) := by
  induction cs generalizing us with
  | nil => simp only [VAs] at h; subst h; simpa using k
  | cons c cs ih =>
    simp only [VAs] at h
    obtain ⟨u, us', rfl, h1, h2⟩ := h
    simp only [List.cons_append, VAs]
    exact ⟨u, us' ++ vs, rfl, h1, ih h2⟩

theorem one_ok {x : AV} {u : Value} (h : one x = true) (hv : VA w g L x u) : u.oneCell' = true ∧ u.cells = #[u] := by
  cases x with
  | p y =>
    simp only [VA] at hv
    cases y with
    | v z => simp only [VP] at hv; subst hv; cases u <;> first | (simp [one] at h; done) | exact ⟨rfl, rfl⟩
    | sl els => simp only [VP] at hv; obtain ⟨a, cap, rfl, _⟩ := hv; exact ⟨rfl, rfl⟩
  | own b ver off len => simp only [VA] at hv; obtain ⟨⟨a, c, rfl⟩, _⟩ := hv; exact ⟨rfl, rfl⟩
  | nil i => simp only [VA] at hv; obtain ⟨a, rfl, _⟩ := hv; exact ⟨rfl, rfl⟩
  | bp b off => simp only [VA] at hv; obtain ⟨⟨a, rfl⟩, _⟩ := hv; exact ⟨rfl, rfl⟩
  | ep b ver i off => simp only [VA] at hv; obtain ⟨⟨a, rfl⟩, _⟩ := hv; exact ⟨rfl, rfl⟩
  | rp cs => simp only [VA] at hv; obtain ⟨k, o, rfl, _⟩ := hv; exact ⟨rfl, rfl⟩
  | clo f caps => simp only [VA] at hv; obtain ⟨cv, rfl, _⟩ := hv; exact ⟨rfl, rfl⟩
  | agg => simp [one] at h
  | tup => simp [one] at h
  | any => simp [one] at h

theorem VAs_one : ∀ {cs : List AV} {us : List Value}, cs.all one = true → VAs w g L cs us → ∀ v ∈ us, v.oneCell' = true
  | [], us, _, h, v, hv => by simp only [VAs] at h; subst h; simp at hv
  | c :: cs, us, h1, h, v, hv => by
    simp only [VAs] at h
    obtain ⟨u, us', rfl, h2, h3⟩ := h
    simp only [List.all_cons, Bool.and_eq_true] at h1
    rcases List.mem_cons.1 hv with rfl | hv
    · exact (one_ok h1.1 h2).1
    · exact VAs_one h1.2 h3 v hv

theorem cellsOf_ok {x : AV} {cs : List AV} {u : Value} (h : cellsOf x = some cs) (hv : VA w g L x u) :
    ∃ us : List Value, u.cells = us.toArray ∧ VAs w g L cs us ∧ (∀ v ∈ us, v.oneCell' = true) := by
  have single : ∀ y : AV, one y = true → VA w g L y u → ∃ us : List Value, u.cells = us.toArray ∧ VAs w g L [y] us ∧ (∀ v ∈ us, v.oneCell' = true) := by
    intro y hy hyv
    obtain ⟨h1, h2⟩ := one_ok hy hyv
    exact ⟨[u], h2, by simpa only [VAs] using ⟨u, [], rfl, hyv, rfl⟩, by simpa using h1⟩
  cases x with
  | agg ds =>
    simp only [cellsOf] at h
    split at h
    · rename_i ha
      obtain rfl : ds = cs := by simpa using h
      simp only [VA] at hv
      obtain ⟨us, rfl, h2⟩ := hv
      exact ⟨us, rfl, h2, VAs_one ha h2⟩
    · simp at h
  | tup => simp [cellsOf] at h
  | any => simp [cellsOf] at h
  | p y =>
    cases y with
    | sl els => simp [cellsOf] at h; subst h; exact single _ rfl hv
    | v z => cases z <;> first | (simp [cellsOf] at h; done) | (simp [cellsOf] at h; subst h; exact single _ rfl hv)
  | own => simp [cellsOf] at h; subst h; exact single _ rfl hv
  | nil => simp [cellsOf] at h; subst h; exact single _ rfl hv
  | bp => simp [cellsOf] at h; subst h; exact single _ rfl hv
  | ep => simp [cellsOf] at h; subst h; exact single _ rfl hv
  | rp => simp [cellsOf] at h; subst h; exact single _ rfl hv
  | clo => simp [cellsOf] at h; subst h; exact single _ rfl hv

/-- Some cells behind an address. -/
def readCells (L : Nat → Blk) (n : Nat) : AV → Option (List AV)
  | .rp cs => if n ≤ cs.length then some ((cs.take n).map .p) else none
  | .bp b off => match L b with
    | .box cells => if off + n ≤ cells.length then some ((cells.drop off).take n) else none
    | _ => none
  | .ep b ver i off => match L b with
    | .arr _ v _ els => if ver = v then (match els[i]? with
      | some e => if off + n ≤ e.length then some ((e.drop off).take n) else none
      | none => none) else none
    | _ => none
  | _ => none

theorem VCs_get {st : Nat → Nat → Prop} : ∀ {cs : List PV} {k o : Nat}, VCs w st cs k o → ∀ (j : Nat) x, cs[j]? = some x → st k (o + j) ∧ ∃ u, w.cell? ⟨k, o + j, none⟩ = some u ∧ u.oneCell' = true ∧ VP w st x u
  | [], _, _, _, j, x, hx => by simp at hx
  | c :: cs, k, o, h, j, x, hx => by
    simp only [VCs] at h
    cases j with
    | zero => simp at hx; subst hx; simpa using ⟨h.1, h.2.1⟩
    | succ j =>
      have := VCs_get h.2.2 j x (by simpa using hx)
      rwa [show o + 1 + j = o + (j + 1) by omega] at this

/-- Values of the cells at an address, out of facts cell by cell. -/
theorem cells_of {k o : Nat} : ∀ (cs : List AV), (∀ (j : Nat) x, cs[j]? = some x → ∃ u, w.cell? ⟨k, o + j, none⟩ = some u ∧ VA w g L x u) →
    ∃ us : List Value, us.length = cs.length ∧ (∀ (j : Nat) v, us[j]? = some v → w.cell? ⟨k, o + j, none⟩ = some v) ∧ VAs w g L cs us := by
  intro cs h
  have hx : ∀ j : Fin cs.length, ∃ u, w.cell? ⟨k, o + j, none⟩ = some u ∧ VA w g L cs[j] u := fun j => h j cs[j] (by simp)
  refine ⟨List.ofFn fun j : Fin cs.length => (hx j).choose, by simp, fun j v hv => ?_, VAs_of (by simp) fun j x hj => ?_⟩
  · have hjl : j < cs.length := by
      have := (List.getElem?_eq_some_iff.1 hv).1
      simpa using this
    have : v = (hx ⟨j, hjl⟩).choose := by
      have := hv
      simp [hjl] at this
      exact this.symm
    rw [this]
    exact (hx ⟨j, hjl⟩).choose_spec.1
  · have hjl : j < cs.length := (List.getElem?_eq_some_iff.1 hj).1
    refine ⟨(hx ⟨j, hjl⟩).choose, by simp [hjl], ?_⟩
    have hxe : cs[j] = x := (List.getElem?_eq_some_iff.1 hj).2
    subst hxe
    exact (hx ⟨j, hjl⟩).choose_spec.2

theorem readCells_ok (r : Rel w g L) {n : Nat} {x : AV} {cs : List AV} {u : Value} (h : readCells L n x = some cs) (hv : VA w g L x u) :
    cs.length = n ∧ ∃ (k o : Nat) (us : List Value), u = .pointer (some ⟨k, o, none⟩) ∧ us.length = n ∧ (∀ (j : Nat) v, us[j]? = some v → w.cell? ⟨k, o + j, none⟩ = some v) ∧ VAs w g L cs us := by
  cases x with
  | rp ds =>
    simp only [readCells] at h
    split at h
    · rename_i hn
      obtain rfl : (ds.take n).map AV.p = cs := by simpa using h
      simp only [VA] at hv
      obtain ⟨k, o, rfl, hc⟩ := hv
      have hl : ((ds.take n).map AV.p).length = n := by simp; omega
      obtain ⟨us, h1, h2, h3⟩ := cells_of (w := w) (g := g) (L := L) (k := k) (o := o) ((ds.take n).map AV.p) (fun j x hx => by
        simp only [List.getElem?_map, Option.map_eq_some_iff] at hx
        obtain ⟨y, hy, rfl⟩ := hx
        have hy' : ds[j]? = some y := by
          rw [List.getElem?_take] at hy
          split at hy
          · exact hy
          · simp at hy
        obtain ⟨_, v, hv1, _, hv2⟩ := VCs_get hc j y hy'
        exact ⟨v, hv1, by simpa only [VA] using hv2⟩)
      exact ⟨hl, k, o, us, rfl, h1.trans hl, h2, h3⟩
    · simp at h
  | bp b off =>
    simp only [readCells] at h
    have hb := r.blk b
    simp only [VA] at hv
    replace hv := hv.2
    cases hL : L b with
    | box cells =>
      simp only [hL] at h hv
      rw [hL] at hb
      split at h
      · rename_i hn
        obtain rfl : (cells.drop off).take n = cs := by simpa using h
        simp only [BlkOk] at hb
        obtain ⟨k, m, hm, c, el, fr, hh, _, _, h5, _⟩ := hb
        obtain ⟨k', m', hm', rfl⟩ := hv
        obtain ⟨rfl, rfl⟩ : k' = k ∧ m' = m := by rw [hm] at hm'; simp at hm'; exact ⟨hm'.1.symm, hm'.2.symm⟩
        have hl : ((cells.drop off).take n).length = n := by simp; omega
        obtain ⟨us, h1, h2, h3⟩ := cells_of (w := w) (g := g) (L := L) (k := k') (o := off) ((cells.drop off).take n) (fun j x hx => by
          rw [List.getElem?_take] at hx
          split at hx
          · rw [List.getElem?_drop] at hx
            obtain ⟨v, hv1, hv2⟩ := h5 (off + j) x hx
            exact ⟨v, by simpa [World.cell?, hh] using hv1, hv2⟩
          · simp at hx)
        exact ⟨hl, k', off, us, rfl, h1.trans hl, h2, h3⟩
      · simp at h
    | none => simp [hL] at h
    | dead => simp [hL] at h
    | arr => simp [hL] at h
    | it => simp [hL] at h
  | ep b ver i off =>
    simp only [readCells] at h
    have hb := r.blk b
    simp only [VA] at hv
    replace hv := hv.2
    cases hL : L b with
    | arr fz v es els =>
      simp only [hL] at h hv
      rw [hL] at hb
      split at h
      · rename_i hver
        cases he : els[i]? with
        | none => simp [he] at h
        | some e =>
          simp only [he] at h
          split at h
          · rename_i hn
            obtain rfl : (e.drop off).take n = cs := by simpa using h
            obtain ⟨k, o, m, hm, rfl⟩ := hv.2 hver
            simp only [BlkOk, hm] at hb
            obtain ⟨_, _, c, el, fr, hh, _, _, h5, _⟩ := hb
            have hl : ((e.drop off).take n).length = n := by simp; omega
            obtain ⟨us, h1, h2, h3⟩ := cells_of (w := w) (g := g) (L := L) (k := k) (o := o + i * es + off) ((e.drop off).take n) (fun j x hx => by
              rw [List.getElem?_take] at hx
              split at hx
              · rw [List.getElem?_drop] at hx
                obtain ⟨v, hv1, _, hv2⟩ := h5 i e he (off + j) x hx
                exact ⟨v, by simpa [World.cell?, hh, Nat.add_assoc] using hv1, hv2⟩
              · simp at hx)
            exact ⟨hl, k, o + i * es + off, us, rfl, h1.trans hl, h2, h3⟩
          · simp at h
      · simp at h
    | none => simp [hL] at h
    | dead => simp [hL] at h
    | box => simp [hL] at h
    | it => simp [hL] at h
  | p => simp [readCells] at h
  | own => simp [readCells] at h
  | nil => simp [readCells] at h
  | clo => simp [readCells] at h
  | agg => simp [readCells] at h
  | tup => simp [readCells] at h
  | any => simp [readCells] at h

/-- A variable's value of its cells. -/
def aMk (ti : TI) (cs : List AV) : AV := if ti.td.agg then .agg cs else cs.headD (.tup [])

theorem aMk_ok {ti : TI} {cs : List AV} {us : List Value} (h : VAs w g L cs us) (hl : ti.td.agg = false → cs ≠ []) : VA w g L (aMk ti cs) (mkV ti us) := by
  unfold aMk mkV
  cases ha : ti.td.agg with
  | true => simp only [if_true, VA]; exact ⟨us, rfl, h⟩
  | false =>
    cases cs with
    | nil => exact (hl ha rfl).elim
    | cons c cs =>
      simp only [VAs] at h
      obtain ⟨u, us', rfl, h1, _⟩ := h
      simpa using h1
end
end Go.Pl
