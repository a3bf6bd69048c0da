/- Slices that are built, or made; bytes out of a text and back. -/
import Derived.Test.YtkaaolegkffckaaGreatDoorPlAppend
import Derived.Laws.BytesString
set_option linter.unusedVariables false
set_option linter.unusedSimpArgs false
namespace Go.Pl

theorem range_none {α : Type} (f : Nat → α) : Array.map f (Array.range 0) = #[] := by
  apply Array.ext'
  simp

def chunk {α : Type} (sz : Nat) : Nat → List α → List (List α)
  | 0, _ => []
  | n + 1, l => l.take sz :: chunk sz n (l.drop sz)

theorem chunk_length {α : Type} (sz : Nat) : ∀ (n : Nat) (l : List α), (chunk sz n l).length = n
  | 0, _ => rfl
  | n + 1, l => by simp [chunk, chunk_length sz n]

theorem chunk_get {α : Type} (sz : Nat) : ∀ (n : Nat) (l : List α) (i : Nat) e, (chunk sz n l)[i]? = some e → e = (l.drop (i * sz)).take sz
  | 0, l, i, e, h => by simp [chunk] at h
  | n + 1, l, 0, e, h => by simp [chunk] at h; simp [h]
  | n + 1, l, i + 1, e, h => by
    simp only [chunk, List.getElem?_cons_succ] at h
    rw [chunk_get sz n _ i e h, List.drop_drop, Nat.add_mul]
    congr 2
    omega

theorem row_chunk {w : World} {g : Gh} {L : Nat → Blk} {sz n : Nat} {ps : List AV} {us : List Value} (hl : ps.length = n * sz) (h : VAs w g L ps us) (h1 : ∀ u ∈ us, u.oneCell' = true) :
    Row w g L sz (chunk sz n ps) us := by
  have hu := VAs_len h
  have hin : ∀ i, i < n → i * sz + sz ≤ n * sz := fun i hi => by
    have : (i + 1) * sz ≤ n * sz := Nat.mul_le_mul_right _ hi
    rw [Nat.add_mul] at this
    omega
  have hget : ∀ i e, (chunk sz n ps)[i]? = some e → i < n ∧ e = (ps.drop (i * sz)).take sz := fun i e he =>
    ⟨by have := (List.getElem?_eq_some_iff.1 he).1; rwa [chunk_length] at this, chunk_get sz n ps i e he⟩
  refine ⟨by rw [chunk_length]; omega, fun e he => ?_, fun i e he j x hx => ?_, h1⟩
  · obtain ⟨i, hi⟩ := List.getElem?_of_mem he
    obtain ⟨hin', rfl⟩ := hget i e hi
    have := hin i hin'
    simp; omega
  · obtain ⟨hin', rfl⟩ := hget i e he
    rw [List.getElem?_take] at hx
    split at hx
    · rw [List.getElem?_drop] at hx
      exact VAs_get h _ x hx
    · simp at hx

theorem range_zero (z : Array Value) (hz : 0 < z.size) : ∀ n, ((Array.range (n * z.size)).map fun i => z[i % z.size]!) = (List.replicate n z.toList).flatten.toArray := by
  intro n
  apply Array.ext'
  simp only [Array.toList_map, Array.toList_range]
  apply List.ext_getElem?
  intro i
  have hfl : ∀ n i, ((List.replicate n z.toList).flatten)[i]? = if i < n * z.size then some z[i % z.size]! else none := by
    intro n
    induction n with
    | zero => intro i; simp
    | succ n ih =>
      intro i
      rw [List.replicate_succ, List.flatten_cons, List.getElem?_append]
      simp only [Array.length_toList]
      split
      · rename_i hi
        rw [if_pos (by rw [Nat.add_mul]; omega), Nat.mod_eq_of_lt hi]
        simp [hi]
      · rename_i hi
        rw [ih]
        have hm : (i - z.size) % z.size = i % z.size := by
          conv => rhs; rw [show i = (i - z.size) + z.size by omega]
          simp
        rw [hm]
        by_cases h2 : i < (n + 1) * z.size
        · rw [if_pos h2, if_pos (by rw [Nat.add_mul] at h2; omega)]
        · rw [if_neg h2, if_neg (by rw [Nat.add_mul] at h2; omega)]
  rw [hfl]
  by_cases h : i < n * z.size
  · simp [h]
  · simp [h]

/-- The cells of a slice that is built. -/
def aBuildSl (nest : Bool) (T : Tab) (L : Nat → Blk) (t : TypeId) (len : Nat) (ps : List (Nat × AV)) : Option (Us × Nat × List (List AV)) :=
  match T t with
  | some ⟨.slc e, _, _, _⟩ => (match T e with
    | some ti => if 0 < ti.size ∧ len * ti.size ≤ 16777216 then (match aFill (fun i => some (i * ti.size, ti.size)) (List.replicate len (zeroCs ti)).flatten ps with
      | some cs => if cs.all one = true ∧ cs.length = len * ti.size then (match preCells nest L cs with
        | some (pv, fr) => some (fr, ti.size, chunk ti.size len pv)
        | none => none) else none
      | none => none) else none
    | none => none)
  | _ => none

section
variable {P : Program} {w : World} {g : Gh} {L : Nat → Blk}

theorem VAs_zero (ti : TI) : ∀ n, VAs w g L (List.replicate n (zeroCs ti)).flatten (List.replicate n ti.zero.cells.toList).flatten
  | 0 => by simp only [List.replicate_zero, List.flatten_nil, VAs]
  | n + 1 => by
    simp only [List.replicate_succ, List.flatten_cons]
    exact VAs_append (cst1s_ok _) (VAs_zero ti n)

theorem aBuildSl_ok {nest : Bool} {T : Tab} (hT : TabOk P T) (r : Rel w g L) {nx : Nat} {t : TypeId} {len : Nat} {ps : List (Nat × AV)} {ups : List (Nat × Value)} {fr : Us} {sz : Nat} {els : List (List AV)} (h : aBuildSl nest T L t len ps = some (fr, sz, els)) (hn : L nx = .none) (hnf : ∀ p ∈ fr, p.1 ≠ nx) (hp : PtOk w g L ps ups) :
    ∃ (v : Value) (w' : World), (Instr.buildSlice t len ups.toArray).run P w = .ok v w' ∧ Made w g L w' (· ∈ (fr ++ [(nx, Blk.arr false 0 sz els)]).map (·.1)) (upds L (fr ++ [(nx, .arr false 0 sz els)])) (.own nx 0 0 els.length) v := by
  unfold aBuildSl at h
  split at h
  · rename_i e _ _ _ hTt
    have ht := (hT t _ hTt).slc (e := e) rfl
    split at h
    · rename_i ti hte
      have hs := (hT e _ hte).size_run w
      have hz := (hT e _ hte).zero_run w
      have hzs := (hT e _ hte).zs
      split at h
      · rename_i hsz
        split at h
        · rename_i cs hcs
          split at h
          · rename_i hone
            split at h
            · rename_i pv fr' hset
              simp only [Option.some.injEq, Prod.mk.injEq] at h
              obtain ⟨rfl, rfl, rfl⟩ := h
              obtain ⟨us', h1, h2⟩ := aFill_ok hcs (VAs_zero ti len) hp
              have hul := VAs_len h2
              have hrun : (Instr.buildSlice t len ups.toArray).run P w = .ok (.slice (some ⟨w.heap.size, 0, none⟩) len len) (w.alloc (.cells us'.toArray e)) := by
                have hlim : ¬ (16777216 < len * ti.size) := by omega
                have hrz := range_zero ti.zero.cells (by omega) len
                rw [hzs] at hrz
                by_cases h0 : len * ti.size = 0
                · have hl0 : len = 0 := by
                    rcases Nat.mul_eq_zero.1 h0 with h' | h'
                    · exact h'
                    · omega
                  subst hl0
                  simp at h1
                  have hfe : Instr.fill (fun i => some (i * ti.size, ti.size)) (Array.map (fun _ => default) (Array.range 0)) ups = some us'.toArray := by rw [range_none]; exact h1
                  simp [Instr.buildSlice, run_underlying ht, hs, newRow, hfe]
                · have hfe : Instr.fill (fun i => some (i * ti.size, ti.size)) ((Array.range (len * ti.size)).map fun x => ti.zero.cells[x % ti.zero.cells.size]!) ups = some us'.toArray := by
                    rw [hzs, hrz]; exact h1
                  simp [Instr.buildSlice, run_underlying ht, hs, hlim, h0, hz, newRow, hfe]
              obtain ⟨hpl, g1, hg1, m1, hps⟩ := preCells_ok r hset
              have hus1 := hps us' h2
              have hrow := row_chunk (sz := ti.size) (n := len) (by omega) hus1 (VAs_one hone.1 h2)
              have hn' : upds L fr' nx = .none := by rw [upds_out fr' L hnf]; exact hn
              obtain ⟨g2, m2, hv2⟩ := arr_new (nx := nx) m1.rel (Plus.alloc w us'.toArray e) (noFz_zero _) hrow len (by rw [chunk_length]; exact Nat.le_refl _) (by simp; omega) (fun j u hu => by simpa using hu) 0 (· = nx) (fun _ => rfl) (by rw [hn']; simp [BlkLe])
              refine ⟨_, _, hrun, g2, m1.us (u2 := [(nx, .arr false 0 ti.size (chunk ti.size len pv))]) (by simpa [upds] using m2), ?_⟩
              rw [upds_append]
              simpa [chunk_length, upds] using hv2
            · simp at h
          · simp at h
        · simp at h
      · simp at h
    · simp at h
  · simp at h

def allOne (vs : List Value) : Bool := vs.all Value.oneCell'

def aMkSl (T : Tab) (t : TypeId) (len cap : AV) : Option (Nat × List (List AV)) :=
  match T t, asNat len, asNat cap with
  | some ⟨.slc e, _, _, _⟩, some l, some c => (match T e with
    | some ti => if l = c ∧ 0 < ti.size ∧ c * ti.bytes ≤ room ∧ c ≤ room ∧ allOne ti.zero.cells.toList = true then some (ti.size, List.replicate l (zeroCs ti)) else none
    | none => none)
  | _, _, _ => none

theorem aMkSl_ok {T : Tab} (hT : TabOk P T) (r : Rel w g L) {nx : Nat} (hn : L nx = .none) {t : TypeId} {x y : AV} {ux uy : Value} {sz : Nat} {els : List (List AV)} (h : aMkSl T t x y = some (sz, els)) (hx : VA w g L x ux) (hy : VA w g L y uy) :
    ∃ (v : Value) (w' : World), (Instr.makeSlice t ux uy).run P w = .ok v w' ∧ Made w g L w' (· = nx) (upd L nx (.arr false 0 sz els)) (.own nx 0 0 els.length) v := by
  unfold aMkSl at h
  split at h
  · rename_i e _ _ _ l c hTt hl hc
    have ht := (hT t _ hTt).slc (e := e) rfl
    obtain ⟨k1, rfl⟩ := asNat_ok hl hx
    obtain ⟨k2, rfl⟩ := asNat_ok hc hy
    split at h
    · rename_i ti hte
      obtain ⟨i, d, hi, hsz, hby, hz, _, _⟩ := (hT e _ hte).ex
      have hs := (hT e _ hte).size_run w
      have hzr := (hT e _ hte).zero_run w
      have hzs := (hT e _ hte).zs
      split at h
      · rename_i hcond
        obtain ⟨rfl, h0, hb, hr, hall⟩ := hcond
        simp only [Option.some.injEq, Prod.mk.injEq] at h
        obtain ⟨rfl, rfl⟩ := h
        simp only [room] at hb hr
        have hw : IntKind.i64.wrap (l : Int) = l := by
          simp only [IntKind.wrap, IntKind.bits, IntKind.signed]
          simp
          omega
        have hbb : ¬ (281474976710656 < (ti.bytes : Int) * (l : Int)) := by
          have : (ti.bytes : Int) * (l : Int) = ((l * ti.bytes : Nat) : Int) := by rw [Int.natCast_mul, Int.mul_comm]
          rw [this]
          omega
        have hrun : (Instr.makeSlice t (.int k1 (l : Int)) (.int k2 (l : Int))).run P w = .ok (.slice (some ⟨w.heap.size, 0, none⟩) l l) (w.alloc (.cells ((List.replicate l ti.zero.cells.toList).flatten.toArray) e)) := by
          have hrz := range_zero ti.zero.cells (by omega) l
          rw [hzs] at hrz
          have hask : ¬ (roomBytes < l * ti.bytes) := by simp only [roomBytes]; omega
          by_cases hl0 : l = 0
          · subst hl0
            have hw0 : IntKind.i64.wrap 0 = 0 := rfl
            have hr0 : Array.map (fun _ => (default : Value)) (Array.range 0) = #[] := range_none _
            simp [Instr.makeSlice, run_underlying ht, asInt, asIntOf, typeInfo, hi, hby, hs, newRow, hw0, askRoom, hr0]
          · have hne : ¬ (l * ti.size = 0) := by
              intro h'
              rcases Nat.mul_eq_zero.1 h' with h' | h' <;> omega
            have hne' : ¬ (l = 0 ∨ ti.size = 0) := by omega
            have hneg : ¬ ((l : Int) < 0) := by omega
            simp [Instr.makeSlice, run_underlying ht, asInt, asIntOf, typeInfo, hi, hby, hs, hzr, hw, hbb, hneg, newRow, askRoom, hask]
            rw [if_neg hne]
            rw [hzs, ← hrz]
        have hrow : Row w g L ti.size (List.replicate l (zeroCs ti)) (List.replicate l ti.zero.cells.toList).flatten := by
          have hzl : (zeroCs ti).length = ti.size := by simp [zeroCs, hzs]
          refine ⟨?_, fun e he => ?_, fun i e he j x hx => ?_, fun u hu => ?_⟩
          · simp [hzs]
          · rw [List.eq_of_mem_replicate he]; exact hzl
          · have hil : i < l := by have := (List.getElem?_eq_some_iff.1 he).1; simpa using this
            have he' : e = zeroCs ti := by
              have := List.getElem?_eq_some_iff.1 he
              obtain ⟨_, h2⟩ := this
              simpa using h2.symm
            subst he'
            have hjl : j < ti.size := by rw [← hzl]; exact (List.getElem?_eq_some_iff.1 hx).1
            have hrz := range_zero ti.zero.cells (by omega) l
            rw [hzs] at hrz
            have hlt := mul_lt_of hil hjl
            have hget : (List.replicate l ti.zero.cells.toList).flatten[i * ti.size + j]? = some ti.zero.cells[j]! := by
              have : (List.replicate l ti.zero.cells.toList).flatten.toArray[i * ti.size + j]? = some ti.zero.cells[j]! := by
                rw [← hrz]
                simp [hlt, Nat.mod_eq_of_lt hjl]
              simpa using this
            refine ⟨_, hget, ?_⟩
            have hjz : j < ti.zero.cells.size := by omega
            have : x = cst1 ti.zero.cells[j]! := by
              simp [zeroCs, hjz] at hx
              simp [hjz, hx]
            rw [this]
            exact cst1_ok _
          · simp only [List.mem_flatten] at hu
            obtain ⟨l', hl', hu⟩ := hu
            rw [List.eq_of_mem_replicate hl'] at hu
            exact List.all_eq_true.1 hall u hu
        have := arr_new (nx := nx) r (Plus.alloc w (List.replicate l ti.zero.cells.toList).flatten.toArray e) (noFz_zero _) hrow l (by simp) (by simp [hzs]) (fun j u hu => by simpa using hu) 0 (· = nx) (fun _ => rfl) (by rw [hn]; simp [BlkLe])
        refine ⟨_, _, hrun, ?_⟩
        simpa using this
      · simp at h
    · simp at h
  · simp at h

/-! ### Texts and bytes -/
def byteEl (b : UInt8) : List AV := [.p (.v (.int .u8 b.toNat))]

def aToBytes (T : Tab) (s d : TypeId) : AV → Option (List (List AV))
  | .p (.v (.string x)) => match T s, T d with
    | some ⟨.str, _, _, _⟩, some ⟨.slc e, _, _, _⟩ => (match T e with
      | some ⟨.int .u8, 1, _, _⟩ => some (x.data.toList.map byteEl)
      | _ => none)
    | _, _ => none
  | _ => none

theorem aToBytes_ok {T : Tab} (hT : TabOk P T) (r : Rel w g L) {nx : Nat} (hn : L nx = .none) {s d : TypeId} {x : AV} {u : Value} {els : List (List AV)} (h : aToBytes T s d x = some els) (hx : VA w g L x u) :
    ∃ (v : Value) (w' : World), (convert s d u).run P w = .ok v w' ∧ Made w g L w' (· = nx) (upd L nx (.arr false 0 1 els)) (.own nx 0 0 els.length) v := by
  unfold aToBytes at h
  split at h
  · rename_i x
    simp only [VA, VP] at hx
    subst hx
    split at h
    · rename_i e _ _ _ hs hd
      have h1 := (hT s _ hs).str rfl
      have h2 := (hT d _ hd).slc (e := e) rfl
      split at h
      · rename_i hte
        have h3 := (hT e _ hte).int (k := .u8) rfl
        simp only [Option.some.injEq] at h
        subst h
        have hge := grownCap_ge w x.size 0 e
        let c : Array Value := (x.data.map fun b => Value.int .u8 b.toNat) ++ Array.replicate (grownCap w x.size 0 e - x.size) (.int .u8 0)
        have hcs : c.size = grownCap w x.size 0 e := by
          have : x.data.size = x.size := rfl
          simp [c, this]; omega
        have hnew : (w.drew.alloc (.cells c e)).heap[w.heap.size]? = some (.cells c e (0, 0)) := heap_alloc_new w.drew (.cells c e)
        have hsh : (w.drew.alloc (.cells c e)).shape? w.heap.size = some (e, c.size) := by simp only [World.shape?, hnew]
        have hrun : (convert s d (.string x)).run P w = .ok (.slice (some ⟨w.heap.size, 0, none⟩) x.size (grownCap w x.size 0 e)) ((w.drew.alloc (.cells c e)).freeze ⟨w.heap.size, c.size, none⟩ 1) := by
          have hm : (markStringish ⟨w.heap.size, 0, none⟩).run P (w.drew.alloc (.cells c e)) = .ok () ((w.drew.alloc (.cells c e)).freeze ⟨w.heap.size, c.size, none⟩ 1) := by
            simp [markStringish, hsh]
          have hq : (choose (.appendCap x.size 0 e)).run P w = .ok (grownCap w x.size 0 e) w.drew := by
            simp [Question.forced, grownCap]
          have hr : (newRow e c).run P w.drew = .ok ⟨w.heap.size, 0, none⟩ (w.drew.alloc (.cells c e)) := by simp [newRow]; rfl
          have hbytes : (Conv.stringToBytes e x).run P w = .ok (.slice (some ⟨w.heap.size, 0, none⟩) x.size (grownCap w x.size 0 e)) ((w.drew.alloc (.cells c e)).freeze ⟨w.heap.size, c.size, none⟩ 1) := by
            unfold Conv.stringToBytes
            simp only [Sem.run_bind, hq, Result.andThen_ok]
            rw [show ((x.data.map fun b => Value.int .u8 b.toNat) ++ Array.replicate (grownCap w x.size 0 e - x.size) (.int .u8 0) : Array Value) = c from rfl, hr]
            simp only [Result.andThen_ok, hm, Sem.run_pure]
          simp [convert, run_underlying h1, run_underlying h2, run_underlying h3, hbytes]
        have hplus : Plus w ((w.drew.alloc (.cells c e)).freeze ⟨w.heap.size, c.size, none⟩ 1) c e (c.size, c.size + 1) := by
          refine ⟨rfl, rfl, rfl, by simp [World.freeze], ?_, fun k hk => ?_⟩
          · simp only [World.freeze]
            rw [if_neg (by decide)]
            show (Array.modify _ _ _)[w.heap.size]? = _
            rw [Array.getElem?_modify, if_pos rfl, hnew]
            rfl
          · have hne : ¬ w.heap.size = k := by omega
            have := heap_alloc_old w.drew (.cells c e) k hk
            simp only [World.freeze]
            rw [if_neg (by decide)]
            show (Array.modify _ _ _)[k]? = _
            rw [Array.getElem?_modify, if_neg hne]
            exact this
        have hnf : NoFz c (c.size, c.size + 1) := by intro j hj h'; omega
        have hrow : Row w g L 1 (x.data.toList.map byteEl) (x.data.toList.map fun b => Value.int .u8 b.toNat) := by
          refine ⟨by simp, fun e he => ?_, fun i e he j y hy => ?_, fun u hu => ?_⟩
          · obtain ⟨b, _, rfl⟩ := List.mem_map.1 he
            rfl
          · simp only [List.getElem?_map, Option.map_eq_some_iff] at he
            obtain ⟨b, hb, rfl⟩ := he
            have hj : j = 0 := by
              have := (List.getElem?_eq_some_iff.1 hy).1
              simp [byteEl] at this
              exact this
            subst hj
            simp [byteEl] at hy
            subst hy
            exact ⟨.int .u8 b.toNat, by simp [hb], by simp only [VA, VP]⟩
          · obtain ⟨b, _, rfl⟩ := List.mem_map.1 hu
            rfl
        have hl : (x.data.toList.map byteEl).length = x.size := by simp
        have := arr_new (nx := nx) r hplus hnf hrow (grownCap w x.size 0 e) (by rw [hl]; exact hge) (by omega) (fun j u hu => by
          have hj : j < x.data.size := by
            have := (List.getElem?_eq_some_iff.1 hu).1
            simpa using this
          simp only [c]
          rw [Array.getElem?_append, if_pos (by simpa using hj)]
          simpa using hu) 0 (· = nx) (fun _ => rfl) (by rw [hn]; simp [BlkLe])
        rw [hl] at this
        rw [hl]
        exact ⟨_, _, hrun, this⟩
      · simp at h
    · simp at h
  · simp at h
end
end Go.Pl
