/- New blocks: variables, arrays, what append makes. -/
import Derived.Test.YtkaaolegkffckaaGreatDoorPlApp
set_option linter.unusedVariables false
set_option linter.unusedSimpArgs false
namespace Go.Pl

/-- How an operation that makes or writes blocks comes out. -/
def Made (w : World) (g : Gh) (L : Nat → Blk) (w' : World) (W : Nat → Prop) (L' : Nat → Blk) (y : AV) (v : Value) : Prop :=
  ∃ g' : Gh, Mv w g L W w' g' L' ∧ VA w' g' L' y v

section
variable {P : Program} {w : World} {g : Gh} {L : Nat → Blk}

/-- A new variable of known cells. -/
theorem box_new (r : Rel w g L) {nx : Nat} (hn : L nx = .none) {w1 : World} {us : List Value} {el : TypeId} {fr : Nat × Nat} (h : Plus w w1 us.toArray el fr) (hf : NoFz us.toArray fr) {cs : List AV} (hv : VAs w g L cs us) :
    Made w g L w1 (· = nx) (upd L nx (.box cs)) (.bp nx 0) (.pointer (some ⟨w.heap.size, 0, none⟩)) := by
  have hlen := VAs_len hv
  refine ⟨_, Mv.new r h nx 1 (.box cs) (· = nx) (fun _ => rfl) (by rw [hn]; simp only [BlkLe]) fun ev => ?_, ?_⟩
  · simp only [BlkOk, upd_same]
    refine ⟨w.heap.size, 1, rfl, us.toArray, el, fr, h.new, hf, by simp [hlen], fun j x hx => ?_, fun j hs => ?_⟩
    · obtain ⟨u, hu, hv'⟩ := VAs_get hv j x hx
      exact ⟨u, by simpa using hu, VA.ev ev x u hv'⟩
    · have := st_lt r hs
      omega
  · simp only [VA, upd_same]
    exact ⟨⟨_, rfl⟩, w.heap.size, 1, rfl, rfl⟩

/-- A new array: the cells of its elements, and others behind them. -/
theorem arr_new (r : Rel w g L) {nx : Nat} {w1 : World} {c : Array Value} {el : TypeId} {fr : Nat × Nat} (h : Plus w w1 c el fr) (hf : NoFz c fr) {sz : Nat} {els : List (List AV)} {news : List Value} (hr : Row w g L sz els news)
    (n : Nat) (hn : els.length ≤ n) (hc : n * sz ≤ c.size) (hcs : ∀ (j : Nat) u, news[j]? = some u → c[j]? = some u) (ver : Nat) (W : Nat → Prop) (hW : Live (L nx) → W nx)
    (hle : BlkLe (g.m nx) (some (w.heap.size, 0, n)) (L nx) (.arr false ver sz els)) :
    Made w g L w1 W (upd L nx (.arr false ver sz els)) (.own nx ver 0 els.length) (.slice (some ⟨w.heap.size, 0, none⟩) els.length n) := by
  refine ⟨_, Mv.new r h nx n (.arr false ver sz els) W hW hle fun ev => ?_, ?_⟩
  · simp only [BlkOk, upd_same]
    refine ⟨hr.uni, hn, c, el, fr, h.new, hf, by omega, fun i e he j x hx => ?_, by simp, fun _ j hs => ?_⟩
    · obtain ⟨u, hu, hv⟩ := hr.val i e he j x hx
      exact ⟨u, by simpa using hcs _ u hu, hr.one u (List.mem_of_getElem? hu), VA.ev ev x u hv⟩
    · have := st_lt r hs
      omega
  · simp only [VA, upd_same]
    exact ⟨⟨_, _, rfl⟩, Nat.le_refl _, fun _ => ⟨by omega, some ⟨w.heap.size, 0, none⟩, by simp, by simp⟩⟩

theorem firstCells_run {sz : Nat} {a : Option Addr} {n cap : Nat} {news : List Value} (hl : news.length = n * sz) (h : news = [] ∨ ∃ k o, a = some ⟨k, o, none⟩ ∧ ∀ (j : Nat) v, news[j]? = some v → w.cell? ⟨k, o + j, none⟩ = some v) :
    (Builtin.firstCells sz n (.slice a n cap)).run P w = .ok news.toArray w := by
  rcases h with rfl | ⟨k, o, rfl, h⟩
  · cases a with
    | none => simp [Builtin.firstCells]
    | some a =>
      have : n * sz = 0 := by simpa using hl.symm
      simp [Builtin.firstCells, this, loadCells, loadCellsFrom]
  · exact run_firstCells_some w sz n ⟨k, o, none⟩ n cap news hl (fun j v hv => by rw [add_lit']; exact h j v hv)

/-- What is appended: a slice of the same type, or a string. -/
def SrcOk (P : Program) (w : World) (t u2 : TypeId) (x : Value) (n : Nat) (news : List Value) : Prop :=
  (u2 = t ∧ ∃ a2 cap2, x = .slice a2 n cap2 ∧ (news = [] ∨ ∃ k o, a2 = some ⟨k, o, none⟩ ∧ ∀ (j : Nat) v, news[j]? = some v → w.cell? ⟨k, o + j, none⟩ = some v)) ∨
  (P.underlying u2 = some .string ∧ ∃ s : ByteArray, x = .string s ∧ n = s.size ∧ news = s.data.toList.map fun b => Value.int .u8 b.toNat)

theorem firstStr_run {sz : Nat} {w : World} (s : ByteArray) : (Builtin.firstCells sz s.size (.string s)).run P w = .ok (s.data.toList.map fun b => Value.int .u8 b.toNat).toArray w := by
  have hx : (s.extract 0 s.size).data = s.data := by
    rw [ByteArray.data_extract]
    exact Array.extract_size
  show Result.ok ((s.extract 0 s.size).data.map fun b => Value.int .u8 b.toNat) w = _
  rw [hx]
  congr 1
  apply Array.ext'
  simp

/-- append where there is room, nothing being appended, or where there is no array at all. -/
theorem append_idle {t e : TypeId} {i : TypeInfo} (ht : P.underlying t = some (.slice e)) (hi : P.info? e = some i) (a : Option Addr) (len cap : Nat) (hc : len ≤ cap) {u2 : TypeId} {x : Value} {news : List Value} (hs : SrcOk P w t u2 x 0 news) (ty : TypeId) :
    (Builtin.append_ #[t, u2] ty #[.slice a len cap, x]).run P w = .ok (.slice a len cap) w := by
  rcases hs with ⟨rfl, a2, cap2, rfl, _⟩ | ⟨hu, s, rfl, h0, rfl⟩
  · have hf : (Builtin.firstCells i.size 0 (.slice a2 0 cap2)).run P w = .ok #[] w := firstCells_run (news := []) (by simp) (.inl rfl)
    cases a with
    | none => simp [Builtin.append_, run_underlying ht, sizeOf, typeInfo, hi, Builtin.lenOf, hc, hf]
    | some a => simp [Builtin.append_, run_underlying ht, sizeOf, typeInfo, hi, Builtin.lenOf, hc, hf, storeCells]
  · have hf := firstStr_run (P := P) (sz := i.size) (w := w) s
    have hnil : s.data.toList = [] := List.eq_nil_of_length_eq_zero h0.symm
    rw [hnil, ← h0] at hf
    cases a with
    | none => simp [Builtin.append_, run_underlying ht, run_underlying hu, sizeOf, typeInfo, hi, Builtin.lenOf, ← h0, hc] at hf ⊢; simp [hf]
    | some a => simp [Builtin.append_, run_underlying ht, run_underlying hu, sizeOf, typeInfo, hi, Builtin.lenOf, ← h0, hc, storeCells] at hf ⊢; simp [hf, storeCells]

/-- append where there is room. -/
theorem append_room {t e : TypeId} {i : TypeInfo} (ht : P.underlying t = some (.slice e)) (hi : P.info? e = some i) {k o len cap n : Nat} {c : Array Value} {el : TypeId} {fr : Nat × Nat} (hg : w.heap[k]? = some (.cells c el fr)) (hf : NoFz c fr)
    {u2 : TypeId} {x : Value} {news : List Value} (hl : news.length = n * i.size) (hn : SrcOk P w t u2 x n news) (h1 : ∀ v ∈ news, v.oneCell' = true)
    (hroom : len + n ≤ cap) (hfit : o + cap * i.size ≤ c.size) (ty : TypeId) :
    ∃ (w' : World) (c' : Array Value), (Builtin.append_ #[t, u2] ty #[.slice (some ⟨k, o, none⟩) len cap, x]).run P w = .ok (.slice (some ⟨k, o, none⟩) (len + n) cap) w' ∧
      Rew w w' k c' el fr ∧ c'.size = c.size ∧ NoFz c' fr ∧ ∀ j : Nat, c'[j]? = if o + len * i.size ≤ j ∧ j < o + len * i.size + news.length then news[j - (o + len * i.size)]? else c[j]? := by
  have hfit2 : o + len * i.size + news.length ≤ c.size := by
    have : (len + n) * i.size ≤ cap * i.size := Nat.mul_le_mul_right _ hroom
    rw [Nat.add_mul] at this
    omega
  obtain ⟨w', c', hs, h2⟩ := store_cells (P := P) hg news (o := o + len * i.size) hfit2 hf h1
  refine ⟨w', c', ?_, h2⟩
  rcases hn with ⟨rfl, a2, cap2, rfl, hn⟩ | ⟨hu, s, rfl, rfl, rfl⟩
  · have hfc := firstCells_run (P := P) (w := w) (cap := cap2) hl hn
    simp [Builtin.append_, run_underlying ht, sizeOf, typeInfo, hi, Builtin.lenOf, hroom, hfc, add_lit', hs]
  · have hfc := firstStr_run (P := P) (sz := i.size) (w := w) s
    simp [Builtin.append_, run_underlying ht, run_underlying hu, sizeOf, typeInfo, hi, Builtin.lenOf, hroom, hfc, add_lit', hs]

/-- append where there is none. -/
theorem append_grow {t e : TypeId} {i : TypeInfo} {z : Value} (ht : P.underlying t = some (.slice e)) (hi : P.info? e = some i) (hz : i.zero = some z) (hzs : z.cells.size = i.size)
    {a1 : Option Addr} {len cap : Nat} {olds : List Value} (hl1 : olds.length = len * i.size) (hn1 : olds = [] ∨ ∃ k o, a1 = some ⟨k, o, none⟩ ∧ ∀ (j : Nat) v, olds[j]? = some v → w.cell? ⟨k, o + j, none⟩ = some v)
    {u2 : TypeId} {x : Value} {n : Nat} {news : List Value} (hl : news.length = n * i.size) (hn : SrcOk P w t u2 x n news)
    (hgr : cap < len + n) (hb : (len + n) * i.bytes ≤ 140737488355328) (h63 : len + n ≤ 140737488355328) (ty : TypeId) :
    ∃ (w' : World) (c : Array Value) (cap' : Nat), (Builtin.append_ #[t, u2] ty #[.slice a1 len cap, x]).run P w = .ok (.slice (some ⟨w.heap.size, 0, none⟩) (len + n) cap') w' ∧
      Plus w w' c e (0, 0) ∧ len + n ≤ cap' ∧ cap' * i.size ≤ c.size ∧ ∀ (j : Nat) u, (olds ++ news)[j]? = some u → c[j]? = some u := by
  have hfo := firstCells_run (P := P) (w := w.drew) (a := a1) (n := len) (cap := cap) hl1 (by simpa using hn1)
  have h48 : ¬ (281474976710656 < Builtin.nextslicecap (len + n) cap * i.bytes) := by have := growslice_fits hgr hb; omega
  have h63' : ¬ (9223372036854775807 < ((len : Int) + (n : Int))) := by omega
  have hge := grownCap_ge w (len + n) cap e
  refine ⟨w.drew.alloc (.cells (olds.toArray ++ news.toArray ++ Builtin.zeroCells z.cells (grownCap w (len + n) cap e - (len + n))) e), _, grownCap w (len + n) cap e, ?_, (Plus.alloc w.drew _ e).drew, hge, ?_, ?_⟩
  · have hn' : ¬ (len + n ≤ cap) := by omega
    rcases hn with ⟨rfl, a2, cap2, rfl, hn⟩ | ⟨hu, s, rfl, rfl, rfl⟩
    · have hfn := firstCells_run (P := P) (w := w.drew) (a := a2) (n := n) (cap := cap2) hl (by simpa using hn)
      simp [Builtin.append_, run_underlying ht, sizeOf, typeInfo, zeroValue, hi, hz, Builtin.lenOf, hn', h63', h48, Question.forced, hfo, hfn, newRow, grownCap]
      rw [← Array.append_assoc, ← List.append_toArray]
    · have hfn := firstStr_run (P := P) (sz := i.size) (w := w.drew) s
      simp [Builtin.append_, run_underlying ht, run_underlying hu, sizeOf, typeInfo, zeroValue, hi, hz, Builtin.lenOf, hn', h63', h48, Question.forced, hfo, hfn, newRow, grownCap]
      rw [← Array.append_assoc, ← List.append_toArray]
  · simp only [Array.size_append, List.size_toArray, size_zeroCells, hzs, hl1, hl, ← Nat.add_mul]
    apply Nat.mul_le_mul_right
    omega
  · intro j u hu
    have hj : j < (olds ++ news).length := (List.getElem?_eq_some_iff.1 hu).1
    have : olds.toArray ++ news.toArray = (olds ++ news).toArray := by simp
    rw [this, Array.getElem?_append, if_pos (by simpa using hj)]
    simpa using hu
end
end Go.Pl
