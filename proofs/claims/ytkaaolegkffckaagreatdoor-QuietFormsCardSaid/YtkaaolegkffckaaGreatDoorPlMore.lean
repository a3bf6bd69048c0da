/- More operations: an own slice held against nil, and slices with three bounds (their value is not used any more). -/
import Derived.Test.YtkaaolegkffckaaGreatDoorPlMake
set_option linter.unusedVariables false
set_option linter.unusedSimpArgs false
namespace Go.Pl

def aNilOwn (T : Tab) (L : Nat → Blk) (op : BinOp) (t : TypeId) (y : Operand) (a : AV) : Option Value :=
  if isNilConst y then match T t, a with
    | some ⟨.slc _, _, _, _⟩, .own b ver _ (_ + 1) => (match L b with
      | .arr _ v _ _ => if ver = v then (match op with
        | .eql => some (.bool false)
        | .neq => some (.bool true)
        | _ => none) else none
      | _ => none)
    | _, _ => none
  else none

theorem aNilOwn_ok {P : Program} {T : Tab} (hT : TabOk P T) {w : World} {g : Gh} {L : Nat → Blk} {op : BinOp} {t : TypeId} {x y : Operand} {a : AV} {va vb v : Value}
    (h : aNilOwn T L op t y a = some v) (ha : VA w g L a va) (hy : ∀ c, y = .const c → vb = c) :
    (do eqGuard op t x y va vb; binOp op t va vb : Go.Sem Value).run P w = .ok v w := by
  unfold aNilOwn at h
  split at h
  rotate_left
  · simp at h
  rename_i hn
  obtain rfl : vb = .slice none 0 0 := by
    cases y with
    | const c =>
      have := hy c rfl
      subst this
      unfold isNilConst at hn
      split at hn
      · rename_i he; simpa using he
      · simp at hn
    | _ => simp [isNilConst] at hn
  split at h
  rotate_left
  · simp at h
  rename_i e s b z bb ver off len hTt
  have hu := (hT t _ hTt).slc (e := e) rfl
  split at h
  rotate_left
  · simp at h
  rename_i fz ver2 es els hL
  split at h
  rotate_left
  · simp at h
  rename_i hv
  subst hv
  simp only [VA, hL] at ha
  have hx := ha.2.2 trivial
  have hval : ∃ ad c, va = .slice (some ad) (len + 1) c := by
    cases hm : g.m bb with
    | none =>
      simp only [hm] at hx
      obtain ⟨_, h0, _⟩ := hx
      simp at h0
    | some q =>
      obtain ⟨k, o, n⟩ := q
      simp only [hm] at hx
      obtain ⟨h1, a, h2, h3⟩ := hx
      rw [h3 (by omega)] at h2
      exact ⟨_, _, h2⟩
  obtain ⟨ad, c, rfl⟩ := hval
  have hg : (eqGuard op t x y (.slice (some ad) (len + 1) c) (.slice none 0 0)).run P w = .ok () w := eqGuard_plain op t x y _ _ (by simp) (by simp)
  split at h
  · simp at h; subst h
    simp [hg, binOp, eq_of (eqIn_slc (P := P) (w := w) 9999 hu (some ad) (len + 1) c)]
  · simp at h; subst h
    simp [hg, binOp, eq_of (eqIn_slc (P := P) (w := w) 9999 hu (some ad) (len + 1) c)]
  · simp at h

def len3 (L : Nat → Blk) : AV → Option Nat
  | .p (.sl els) => some els.length
  | .own b ver off len => match L b with
    | .arr _ v _ _ => if ver = v then some len else none
    | _ => none
  | _ => none

def aSlice3 (T : Tab) (L : Nat → Blk) (t : TypeId) (x : AV) (lo hi : Option AV) (mx : AV) : Option Nat :=
  match T t, len3 L x, hi with
  | some ⟨.slc e, _, _, _⟩, some n, some yh => (match T e, asNat yh, bnd 0 lo, bnd n (some mx) with
    | some _, some h, some l, some m => if l ≤ h ∧ h ≤ m ∧ m ≤ n then some (h - l) else none
    | _, _, _, _ => none)
  | _, _, _ => none

theorem len3_ok {w : World} {g : Gh} {L : Nat → Blk} {x : AV} {n : Nat} {u : Value} (h : len3 L x = some n) (hv : VA w g L x u) : ∃ a c, u = .slice a n c ∧ n ≤ c := by
  cases x with
  | p y =>
    cases y with
    | v v => simp [len3] at h
    | sl els =>
      simp [len3] at h; subst h
      simp only [VA, VP] at hv
      obtain ⟨a, cap, rfl, hc, _⟩ := hv
      exact ⟨a, cap, rfl, hc⟩
  | own b ver off len =>
    simp only [len3] at h
    cases hL : L b with
    | arr fz v es els =>
      simp only [hL] at h
      split at h
      · rename_i hver
        subst hver
        simp at h; subst h
        simp only [VA, hL] at hv
        have hx := hv.2.2 trivial
        cases hm : g.m b with
        | none =>
          simp only [hm] at hx
          obtain ⟨_, rfl, a, rfl⟩ := hx
          exact ⟨a, 0, rfl, Nat.le_refl _⟩
        | some q =>
          obtain ⟨k, o, n⟩ := q
          simp only [hm] at hx
          obtain ⟨h1, a, rfl, _⟩ := hx
          exact ⟨a, _, rfl, by omega⟩
      · simp at h
    | none => simp [hL] at h
    | dead => simp [hL] at h
    | box => simp [hL] at h
    | it => simp [hL] at h
  | _ => simp [len3] at h

theorem sliceBounds_run3 {P : Program} {w : World} (len cap : Nat) (lo hi : Option Value) (l h m : Nat) (k2 : IntKind) (hl : (lo = none ∧ l = 0) ∨ ∃ k, lo = some (.int k (l : Int))) (hh : ∃ k, hi = some (.int k (h : Int)))
    (h1 : l ≤ h) (h2 : h ≤ m) (h3 : m ≤ cap) : (Instr.sliceBounds true len cap lo hi (some (.int k2 (m : Int)))).run P w = .ok (l, h, m) w := by
  obtain ⟨k', rfl⟩ := hh
  rcases hl with ⟨rfl, rfl⟩ | ⟨k, rfl⟩ <;> simp [Instr.sliceBounds, Instr.sliceBound, asIntOf, h1, h2, h3]

theorem Mv.deadNew {w : World} {g : Gh} {L : Nat → Blk} (r : Rel w g L) {b : Nat} (hb : L b = .none) : Mv w g L (· = b) w g (upd L b .dead) := by
  have ev : Ev w g L w g (upd L b .dead) := ⟨Keep.refl _ _, fun i => by
    by_cases hi : i = b
    · subst hi; rw [hb]; trivial
    · rw [upd_other _ _ hi]; exact BlkLe.refl _ _⟩
  have liv : ∀ i, Live (upd L b .dead i) → i ≠ b ∧ Live (L i) := fun i h => by
    by_cases hi : i = b
    · subst hi; simp [Live] at h
    · rw [upd_other _ _ hi] at h; exact ⟨hi, h⟩
  refine ⟨⟨fun i => ?_, fun i j k o n o' n' h1 h2 => r.inj i j k o n o' n' (liv i h1).2 (liv j h2).2, r.stc⟩, ev, Out.refl _ _, fun i hi _ => ⟨upd_other _ _ hi, rfl⟩, fun i k o n h hm => .inl ⟨o, n, (liv i h).2, hm⟩, fun _ _ h => .inl h⟩
  by_cases hi : i = b
  · subst hi; rw [upd_same]; trivial
  · rw [upd_other _ _ hi]
    exact (r.blk i).stay rfl ev rfl (fun _ _ _ _ => rfl) (fun _ _ _ _ _ h => h)

theorem aSlice3_ok {P : Program} {T : Tab} (hT : TabOk P T) {w : World} {g : Gh} {L : Nat → Blk} {t : TypeId} {x mx : AV} {lo hi : Option AV} {u um : Value} {ulo uhi : Option Value} {n : Nat} (h : aSlice3 T L t x lo hi mx = some n)
    (hv : VA w g L x u) (hlo : OptOk w g L lo ulo) (hhi : OptOk w g L hi uhi) (hm : VA w g L mx um) : ∃ a c, (Instr.sliceAt t u ulo uhi (some um)).run P w = .ok (.slice a n c) w := by
  unfold aSlice3 at h
  split at h
  rotate_left
  · simp at h
  rename_i e sz by_ z n0 yh hTt hlen
  have hu := (hT t _ hTt).slc (e := e) rfl
  split at h
  rotate_left
  · simp at h
  rename_i ti hh l m hte h1 h2 h3
  split at h
  rotate_left
  · simp at h
  rename_i hc
  simp at h; subst h
  have hsz := (hT _ _ hte).size_run w
  obtain ⟨a, cap, rfl, hcap⟩ := len3_ok hlen hv
  obtain ⟨k2, rfl⟩ := asNat_ok (by simpa [bnd] using h3) hm
  obtain ⟨uh, rfl, hyh⟩ := hhi
  obtain ⟨kh, rfl⟩ := asNat_ok h1 hyh
  have hb := sliceBounds_run3 (P := P) (w := w) n0 cap ulo _ l hh m k2 (hlo.bnd h2) ⟨kh, rfl⟩ hc.1 hc.2.1 (by omega)
  exact ⟨_, _, by simp [Instr.sliceAt, run_underlying hu, Instr.slice, hb, hsz]; exact ⟨rfl, rfl⟩⟩

/-! ### A text, letter by letter -/
def aRange (T : Tab) (t : TypeId) : AV → Option ByteArray
  | .p (.v (.string s)) => match T t with
    | some ⟨.str, _, _, _⟩ => some s
    | _ => none
  | _ => none

section
variable {P : Program} {w : World} {g : Gh} {L : Nat → Blk}
theorem aRange_ok {T : Tab} (hT : TabOk P T) (r : Rel w g L) {nx : Nat} (hn : L nx = .none) {t : TypeId} {x : AV} {u : Value} {s : ByteArray} (h : aRange T t x = some s) (hx : VA w g L x u) :
    ∃ (v : Value) (w' : World), (Instr.range t u).run P w = .ok v w' ∧ Made w g L w' (· = nx) (upd L nx (.it s 0)) (.bp nx 0) v := by
  unfold aRange at h
  split at h
  · rename_i s'
    split at h
    · rename_i hTt
      simp only [Option.some.injEq] at h; subst h
      simp only [VA, VP] at hx
      subst hx
      have hu := (hT t _ hTt).str rfl
      refine ⟨.pointer (some ⟨w.heap.size, 0, none⟩), w.alloc (.stringIter s' 0), by simp [Instr.range, run_underlying hu], ⟨upd g.m nx (some (w.heap.size, 0, 1)), g.st⟩, ?_, ?_⟩
      · have hpl : PlusO w (w.alloc (.stringIter s' 0)) (.stringIter s' 0) := ⟨rfl, rfl, rfl, by simp, heap_alloc_new w _, fun k hk => heap_alloc_old w _ k hk⟩
        refine Mv.new r hpl nx 1 (.it s' 0) (· = nx) (fun _ => rfl) (by rw [hn]; simp only [BlkLe]) fun ev => ?_
        simp only [BlkOk, upd_same]
        refine ⟨w.heap.size, 1, rfl, heap_alloc_new w _, fun j hs => ?_⟩
        have := st_lt r hs
        omega
      · simp only [VA, upd_same]
        exact ⟨⟨_, rfl⟩, w.heap.size, 1, rfl, rfl⟩
    · simp at h
  · simp at h

def aNext (L : Nat → Blk) : AV → Option (AV × Us)
  | .bp b 0 => match L b with
    | .it s pos => if pos < s.size then some (.tup [.p (.v (.bool true)), .p (.v (.int .i64 pos)), .p (.v (.int .i32 (Utf8.decode s pos).1))], [(b, .it s (pos + (Utf8.decode s pos).2))])
      else some (.tup [.p (.v (.bool false))], [])
    | _ => none
  | _ => none

theorem aNext_ok (r : Rel w g L) {x y : AV} {u : Value} {us : Us} {ty : TypeId} (h : aNext L x = some (y, us)) (hx : VA w g L x u) :
    ∃ (v : Value) (w' : World) (g' : Gh), (Instr.next u true ty).run P w = .ok v w' ∧ Mv w g L (· ∈ us.map (·.1)) w' g' (upds L us) ∧ VA w' g' (upds L us) y v := by
  unfold aNext at h
  split at h
  · rename_i b
    split at h
    · rename_i s pos hL
      simp only [VA, hL] at hx
      obtain ⟨_, k, n, hm, rfl⟩ := hx
      have hb := r.blk b
      rw [hL] at hb
      simp only [BlkOk] at hb
      obtain ⟨k', n', hm', hh, hst⟩ := hb
      obtain ⟨rfl, rfl⟩ : k' = k ∧ n' = n := by rw [hm] at hm'; simp at hm'; exact ⟨hm'.1.symm, hm'.2.symm⟩
      split at h
      · rename_i hlt
        simp only [Option.some.injEq, Prod.mk.injEq] at h
        obtain ⟨rfl, rfl⟩ := h
        have hlk : k' < w.heap.size := (Array.getElem?_eq_some_iff.1 hh).1
        refine ⟨.tuple #[.bool true, .int .i64 pos, .int .i32 (Utf8.decode s pos).1], { w with heap := w.heap.setIfInBounds k' (.stringIter s (pos + (Utf8.decode s pos).2)) }, g, ?_, ?_, ?_⟩
        · simp [Instr.next, getObj, setObj, Sem.run, hh, hlt, goInt, Result.andThen]
        · simp only [List.map_cons, List.map_nil, List.mem_singleton, upds]
          have hre : RewO w { w with heap := w.heap.setIfInBounds k' (.stringIter s (pos + (Utf8.decode s pos).2)) } k' (.stringIter s (pos + (Utf8.decode s pos).2)) :=
            ⟨rfl, rfl, rfl, by simp, by simp [hlk], fun i hi => by simp [Array.getElem?_setIfInBounds, Ne.symm hi]⟩
          refine Mv.write r hre b 0 n' hm (by rw [hL]; trivial) hst (.it s (pos + (Utf8.decode s pos).2)) (by rw [hL]; simp [BlkLe]) fun ev => ?_
          simp only [BlkOk]
          exact ⟨k', n', hm, by simp [hlk], hst⟩
        · simp only [VA, VAs, VP]
          exact ⟨_, rfl, _, _, rfl, rfl, _, _, rfl, rfl, _, _, rfl, rfl, rfl⟩
      · rename_i hlt
        simp only [Option.some.injEq, Prod.mk.injEq] at h
        obtain ⟨rfl, rfl⟩ := h
        refine ⟨.tuple #[.bool false], w, g, ?_, Mv.refl r _, ?_⟩
        · simp [Instr.next, getObj, Sem.run, hh, hlt, Result.andThen]
        · simp only [VA, VAs, VP]
          exact ⟨_, rfl, _, _, rfl, rfl, rfl⟩
    · simp at h
  · simp at h
end
end Go.Pl
