/- More operations of the plain machine: slices, lengths, conversions, errors. -/
import Derived.Test.YtkaaolegkffckaaGreatDoorPlOps
set_option linter.unusedVariables false
set_option linter.unusedSimpArgs false
namespace Go.Pl

/-! ### x[lo:hi] -/
def bnd (d : Nat) : Option AV → Option Nat
  | none => some d
  | some x => asNat x

def aSlice (T : Tab) (L : Nat → Blk) (t : TypeId) (x : AV) (lo hi : Option AV) : Option AV :=
  match T t with
  | some ⟨.str, _, _, _⟩ => (match x with
    | .p (.v (.string s)) => (match bnd s.size hi, bnd 0 lo with
      | some h, some l => if l ≤ h ∧ h ≤ s.size then some (.p (.v (.string (s.extract l h)))) else none
      | _, _ => none)
    | _ => none)
  | some ⟨.slc e, _, _, _⟩ => (match T e with
    | some ti => (match x with
      | .p (.sl els) => (match bnd els.length hi, bnd 0 lo with
        | some h, some l => if l ≤ h ∧ h ≤ els.length ∧ uni ti.size els = true then some (.p (.sl ((els.take h).drop l))) else none
        | _, _ => none)
      | .own b ver off len => (match bnd len hi, bnd 0 lo with
        | some h, some l => (match L b with
          | .arr _ v es els => if ver = v ∧ es = ti.size ∧ l ≤ h ∧ off + h ≤ els.length then some (.own b ver (off + l) (h - l)) else none
          | _ => none)
        | _, _ => none)
      | .nil i => (match bnd 0 hi, bnd 0 lo with
        | some 0, some 0 => some (.nil i)
        | _, _ => none)
      | _ => none)
    | none => none)
  | _ => none

theorem bnd_run {P : Program} {w : World} {g L} {x : Option AV} {u : Option Value} {d n : Nat} (h : bnd d x = some n) (hv : ∀ y, x = some y → ∃ v, u = some v ∧ VA w g L y v) (hn : x = none → u = none) :
    (u = none ∧ n = d) ∨ ∃ k, u = some (.int k (n : Int)) := by
  cases x with
  | none => simp [bnd] at h; exact .inl ⟨hn rfl, h.symm⟩
  | some y =>
    obtain ⟨v, rfl, hy⟩ := hv y rfl
    obtain ⟨k, rfl⟩ := asNat_ok h hy
    exact .inr ⟨k, rfl⟩

theorem sliceBounds_run {P : Program} {w : World} (isSl : Bool) (len cap : Nat) (lo hi : Option Value) (l h : Nat) (hl : (lo = none ∧ l = 0) ∨ ∃ k, lo = some (.int k (l : Int))) (hh : (hi = none ∧ h = len) ∨ ∃ k, hi = some (.int k (h : Int)))
    (h1 : l ≤ h) (h2 : h ≤ cap) : (Instr.sliceBounds isSl len cap lo hi none).run P w = .ok (l, h, cap) w := by
  rcases hl with ⟨rfl, rfl⟩ | ⟨k, rfl⟩ <;> rcases hh with ⟨rfl, rfl⟩ | ⟨k', rfl⟩ <;> simp [Instr.sliceBounds, Instr.sliceBound, asIntOf, h1, h2]

/-- How the optional bounds of a slice are told. -/
def OptOk (w : World) (g : Gh) (L : Nat → Blk) : Option AV → Option Value → Prop
  | none, u => u = none
  | some x, u => ∃ v, u = some v ∧ VA w g L x v

theorem OptOk.bnd {w : World} {g L} {x : Option AV} {u : Option Value} {d n : Nat} (h : OptOk w g L x u) (hb : bnd d x = some n) : (u = none ∧ n = d) ∨ ∃ k, u = some (.int k (n : Int)) := by
  cases x with
  | none => simp [Go.Pl.bnd] at hb; exact .inl ⟨h, hb.symm⟩
  | some y =>
    obtain ⟨v, rfl, hy⟩ := h
    obtain ⟨k, rfl⟩ := asNat_ok hb hy
    exact .inr ⟨k, rfl⟩

theorem aSlice_ok {P : Program} {T : Tab} (hT : TabOk P T) {w : World} {g : Gh} {L : Nat → Blk} (r : Rel w g L) {t : TypeId} {x y : AV} {lo hi : Option AV} {u : Value} {ulo uhi : Option Value} (h : aSlice T L t x lo hi = some y)
    (hv : VA w g L x u) (hlo : OptOk w g L lo ulo) (hhi : OptOk w g L hi uhi) : ∃ v, (Instr.sliceAt t u ulo uhi none).run P w = .ok v w ∧ VA w g L y v := by
  unfold aSlice at h
  split at h
  · rename_i sz by_ z hTt
    have hu := (hT t _ hTt).str rfl
    split at h
    · rename_i s
      split at h
      · rename_i hh l h1 h2
        split at h
        · rename_i hc
          simp at h; subst h
          simp only [VA, VP] at hv
          subst hv
          have hb := sliceBounds_run (P := P) (w := w) false s.size s.size ulo uhi l hh (hlo.bnd h2) (hhi.bnd h1) hc.1 hc.2
          refine ⟨.string (s.extract l hh), ?_, by simp only [VA, VP]⟩
          simp [Instr.sliceAt, run_underlying hu, Instr.slice, hb]
        · simp at h
      · simp at h
    · simp at h
  · rename_i e sz by_ z hTt
    have hu := (hT t _ hTt).slc (e := e) rfl
    split at h
    · rename_i ti hte
      have hsz := (hT _ _ hte).size_run w
      split at h
      · rename_i els
        split at h
        · rename_i hh l h1 h2
          split at h
          · rename_i hc
            simp at h; subst h
            simp only [VA, VP] at hv
            obtain ⟨a, cap, rfl, hcap, hx⟩ := hv
            have hb := sliceBounds_run (P := P) (w := w) true els.length cap ulo uhi l hh (hlo.bnd h2) (hhi.bnd h1) hc.1 (by omega)
            refine ⟨.slice (if cap = l then a else a.map (·.add (l * ti.size))) (hh - l) (cap - l), ?_, ?_⟩
            · simp [Instr.sliceAt, run_underlying hu, Instr.slice, hb, hsz]
            · have hlen : ((els.take hh).drop l).length = hh - l := by simp; omega
              simp only [VA, VP, hlen]
              refine ⟨_, _, rfl, by omega, ?_⟩
              rcases hx with rfl | ⟨k, o, rfl, hx⟩
              · left; simp
              · by_cases hcl : cap = l
                · left
                  apply List.eq_nil_of_length_eq_zero
                  omega
                · right
                  refine ⟨k, o + l * ti.size, by simp [hcl, add_lit'], ?_⟩
                  exact VEs_drop l (by simp; omega) (fun e he => uni_ok hc.2.2 e (List.mem_of_mem_take he)) (VEs_take hh hx)
          · simp at h
        · simp at h
      · rename_i b ver off len
        split at h
        · rename_i hh l h1 h2
          split at h
          · rename_i v es els hL
            split at h
            · rename_i hc
              obtain ⟨rfl, rfl, hlh, hle⟩ := hc
              simp at h; subst h
              simp only [VA, hL] at hv
              obtain ⟨_, hvle, hx⟩ := hv
              have hx := hx trivial
              have hbo := r.blk b
              rw [hL] at hbo
              simp only [BlkOk] at hbo
              cases hm : g.m b with
              | none =>
                simp only [hm] at hx hbo
                obtain ⟨rfl, rfl, a, rfl⟩ := hx
                obtain ⟨_, rfl⟩ := hbo
                have : hh = 0 := by simpa using hle
                subst this
                have : l = 0 := by omega
                subst this
                have hb := sliceBounds_run (P := P) (w := w) true 0 0 ulo uhi 0 0 (hlo.bnd h2) (hhi.bnd h1) (Nat.le_refl _) (Nat.le_refl _)
                refine ⟨.slice a 0 0, ?_, ?_⟩
                · simp [Instr.sliceAt, run_underlying hu, Instr.slice, hb, hsz]
                · simp only [VA, hL, hm]
                  exact ⟨⟨_, _, rfl⟩, Nat.le_refl _, fun _ => by simp⟩
              | some tt =>
                obtain ⟨k, o, n⟩ := tt
                simp only [hm] at hx hbo
                obtain ⟨hon, a, rfl, ha⟩ := hx
                have hln := hbo.2.1
                have hb := sliceBounds_run (P := P) (w := w) true len (n - off) ulo uhi l hh (hlo.bnd h2) (hhi.bnd h1) hlh (by omega)
                refine ⟨.slice (if n - off = l then a else a.map (·.add (l * ti.size))) (hh - l) (n - off - l), ?_, ?_⟩
                · simp [Instr.sliceAt, run_underlying hu, Instr.slice, hb, hsz]
                · simp only [VA, hL, hm]
                  refine ⟨⟨_, _, rfl⟩, hvle, fun _ => ⟨by omega, _, by rw [Nat.sub_sub], fun hlt => ?_⟩⟩
                  obtain rfl := ha (by omega)
                  rw [if_neg (by omega)]
                  simp [add_lit', Nat.add_mul, Nat.add_assoc]
            · simp at h
          · simp at h
        · simp at h
      · rename_i i
        split at h
        · rename_i h1 h2
          simp at h; subst h
          simp only [VA] at hv
          obtain ⟨a, rfl, ha⟩ := hv
          have hb := sliceBounds_run (P := P) (w := w) true 0 0 ulo uhi 0 0 (hlo.bnd h2) (hhi.bnd h1) (Nat.le_refl _) (Nat.le_refl _)
          refine ⟨.slice a 0 0, ?_, ?_⟩
          · simp [Instr.sliceAt, run_underlying hu, Instr.slice, hb, hsz]
          · simp only [VA]; exact ⟨a, rfl, ha⟩
        · simp at h
      · simp at h
    · simp at h
  · simp at h

/-! ### len -/
def aLen (T : Tab) (L : Nat → Blk) (t : TypeId) (x : AV) : Option Nat :=
  match T t with
  | some ⟨.str, _, _, _⟩ => (match x with | .p (.v (.string s)) => some s.size | _ => none)
  | some ⟨.slc _, _, _, _⟩ => (match x with
    | .p (.sl els) => some els.length
    | .own _ _ _ len => some len
    | .nil _ => some 0
    | _ => none)
  | some ⟨.arr n _, _, _, _⟩ => some n
  | _ => none

theorem aLen_ok {P : Program} {T : Tab} (hT : TabOk P T) {w : World} {g : Gh} {L : Nat → Blk} {t ty : TypeId} {x : AV} {u : Value} {n : Nat} (h : aLen T L t x = some n) (hv : VA w g L x u) :
    (Builtin.len_ #[t] ty #[u]).run P w = .ok (.int .i64 n) w := by
  unfold aLen at h
  split at h
  · rename_i hTt
    have hu := (hT t _ hTt).str rfl
    split at h
    · simp at h; subst h
      simp only [VA, VP] at hv; subst hv
      simp [Builtin.len_, run_underlying hu, goInt]
    · simp at h
  · rename_i e _ _ _ hTt
    have hu := (hT t _ hTt).slc (e := e) rfl
    split at h
    · simp at h; subst h
      simp only [VA, VP] at hv
      obtain ⟨a, cap, rfl, _⟩ := hv
      simp [Builtin.len_, run_underlying hu, goInt]
    · simp at h; subst h
      simp only [VA] at hv
      obtain ⟨⟨a, c, rfl⟩, _⟩ := hv
      simp [Builtin.len_, run_underlying hu, goInt]
    · simp at h; subst h
      simp only [VA] at hv
      obtain ⟨a, rfl, _⟩ := hv
      simp [Builtin.len_, run_underlying hu, goInt]
    · simp at h
  · rename_i m e _ _ _ hTt
    have hu := (hT t _ hTt).arr (n := m) (e := e) rfl
    simp at h; subst h
    simp [Builtin.len_, run_underlying hu, goInt]
  · simp at h

/-! ### One operand -/
def aUn (op : UnOp) : AV → Option AV
  | .p (.v (.bool b)) => match op with | .not => some (.p (.v (.bool !b))) | _ => none
  | .p (.v (.int k n)) => match op with
    | .neg => some (.p (.v (.int k (k.wrap (0 - n)))))
    | .xor => (aBits .xor k (if k.signed then -1 else k.max) n).map fun r => .p (.v (.int k r))
    | _ => none
  | _ => none

theorem aUn_ok {P : Program} {w : World} {g : Gh} {L : Nat → Blk} {op : UnOp} {x y : AV} {u : Value} (h : aUn op x = some y) (hv : VA w g L x u) : ∃ v, (Op.unary op u).run P w = .ok v w ∧ VA w g L y v := by
  unfold aUn at h
  split at h
  · rename_i b
    simp only [VA, VP] at hv; subst hv
    split at h
    · obtain rfl := Option.some.inj h
      exact ⟨.bool !b, by simp [Op.unary], by simp only [VA, VP]⟩
    · simp at h
  · rename_i k n
    simp only [VA, VP] at hv; subst hv
    split at h
    · obtain rfl := Option.some.inj h
      exact ⟨.int k (k.wrap (0 - n)), by simp [Op.unary, Op.intArith], by simp only [VA, VP]⟩
    · obtain ⟨r, hr, rfl⟩ := Option.map_eq_some_iff.1 h
      refine ⟨.int k r, ?_, by simp only [VA, VP]⟩
      simp only [aBits, Option.some.injEq] at hr
      rw [← hr]
      simp [Op.unary, Op.intBits]
    · simp at h
  · simp at h

/-- A number is made another kind's. -/
def aConvInt (T : Tab) (s d : TypeId) : AV → Option AV
  | .p (.v (.int _ n)) => match T s, T d with
    | some _, some ⟨.int k, _, _, _⟩ => some (.p (.v (.int k (k.wrap n))))
    | _, _ => none
  | _ => none

theorem aConvInt_ok {P : Program} {T : Tab} (hT : TabOk P T) {w : World} {g : Gh} {L : Nat → Blk} {s d : TypeId} {x y : AV} {u : Value} (h : aConvInt T s d x = some y) (hv : VA w g L x u) : ∃ v, (convert s d u).run P w = .ok v w ∧ VA w g L y v := by
  unfold aConvInt at h
  split at h
  · split at h
    · rename_i ti k _ _ _ hs hd
      simp only [VA, VP] at hv; subst hv
      simp at h; subst h
      obtain ⟨ds, h1, _⟩ := (hT s _ hs).und
      have h2 := (hT d _ hd).int (k := k) rfl
      refine ⟨_, ?_, by simp only [VA, VP]; rfl⟩
      simp [convert, run_underlying h1, run_underlying h2, Conv.intToInt]
    · simp at h
  · simp at h

/-! ### Errors, function values, tuples -/
def flatV : AV → Option Value
  | .p (.v x) => some x
  | .agg xs => (flats xs).map fun vs => .agg vs.toArray
  | _ => none

theorem flatV_ok {w g L} {x : AV} {v u : Value} (h : flatV x = some v) (hv : VA w g L x u) : u = v := by
  cases x with
  | p y => cases y with
    | v z => simp [flatV] at h; subst h; simpa only [VA, VP] using hv
    | sl => simp [flatV] at h
  | agg xs =>
    simp only [flatV, Option.map_eq_some_iff] at h
    obtain ⟨vs, hvs, rfl⟩ := h
    simp only [VA] at hv
    obtain ⟨us, rfl, hus⟩ := hv
    rw [flats_ok hvs hus]
  | _ => simp [flatV] at h

def aMkIf (T : Tab) (t : TypeId) (x : AV) : Option AV :=
  match T t, flatV x with
  | some ⟨.ifc, _, _, _⟩, _ => none
  | some _, some v => some (.p (.v (.iface t v)))
  | _, _ => none

theorem aMkIf_ok {P : Program} {T : Tab} (hT : TabOk P T) {w : World} {g : Gh} {L : Nat → Blk} {t : TypeId} {x y : AV} {u : Value} (h : aMkIf T t x = some y) (hv : VA w g L x u) :
    ∃ v, (Instr.makeInterface t u).run P w = .ok v w ∧ VA w g L y v := by
  unfold aMkIf at h
  split at h
  · simp at h
  · rename_i ti v hn hTt hf
    simp at h; subst h
    obtain rfl := flatV_ok hf hv
    obtain ⟨d, hd, h2⟩ := (hT t _ hTt).und
    refine ⟨.iface t u, ?_, by simp only [VA, VP]⟩
    have : ∀ ms, d ≠ .interface ms := by
      rintro ms rfl
      obtain ⟨td, a, b, c⟩ := ti
      simp only [tdOf] at h2
      subst h2
      exact hn _ _ _ rfl
    cases d <;> simp [Instr.makeInterface, run_underlying hd]
    exact (this _ rfl).elim
  · simp at h

def aExtract (x : AV) (i : Nat) : Option AV :=
  match x with
  | .tup vs => vs[i]?
  | _ => none

theorem aExtract_ok {P : Program} {w : World} {g : Gh} {L : Nat → Blk} {i : Nat} {x y : AV} {u : Value} (h : aExtract x i = some y) (hv : VA w g L x u) : ∃ v, (Instr.extract u i).run P w = .ok v w ∧ VA w g L y v := by
  cases x with
  | tup vs =>
    simp only [aExtract] at h
    simp only [VA] at hv
    obtain ⟨us, rfl, hus⟩ := hv
    obtain ⟨v, hv1, hv2⟩ := VAs_get hus i y h
    exact ⟨v, by simp [Instr.extract, hv1], hv2⟩
  | _ => simp [aExtract] at h

def aAssert (T : Tab) (x : AV) (t : TypeId) : Option AV :=
  match T t, x with
  | some ⟨.ifc, _, _, _⟩, _ => none
  | some ti, .p (.v .nilIface) => some (.tup [cst ti.zero, .p (.v (.bool false))])
  | some ti, .p (.v (.iface t' v)) => if t' = t then some (.tup [cst v, .p (.v (.bool true))]) else some (.tup [cst ti.zero, .p (.v (.bool false))])
  | _, _ => none

theorem aAssert_ok {P : Program} {T : Tab} (hT : TabOk P T) {w : World} {g : Gh} {L : Nat → Blk} {t xt : TypeId} {x y : AV} {u : Value} (h : aAssert T x t = some y) (hv : VA w g L x u) :
    ∃ v, (Instr.typeAssert u xt t true).run P w = .ok v w ∧ VA w g L y v := by
  have two : ∀ (a : Value) (b : Bool), VA w g L (.tup [cst a, .p (.v (.bool b))]) (.tuple #[a, .bool b]) := by
    intro a b
    simp only [VA, VAs, VP]
    exact ⟨[a, .bool b], rfl, a, [.bool b], rfl, cst_ok a, _, [], rfl, rfl, rfl⟩
  unfold aAssert at h
  split at h
  · simp at h
  · rename_i ti hn hTt
    simp at h; subst h
    simp only [VA, VP] at hv; subst hv
    obtain ⟨d, hd, h2⟩ := (hT t _ hTt).und
    have hz := (hT t _ hTt).zero_run w
    refine ⟨_, ?_, two _ _⟩
    cases d <;> simp [Instr.typeAssert, run_underlying hd, hz]
  · rename_i ti t' v hn hTt
    simp only [VA, VP] at hv; subst hv
    obtain ⟨d, hd, h2⟩ := (hT t _ hTt).und
    have hz := (hT t _ hTt).zero_run w
    have hni : ∀ ms, d ≠ .interface ms := by
      rintro ms rfl
      obtain ⟨td, a, b, c⟩ := ti
      simp only [tdOf] at h2
      subst h2
      exact hn _ _ _ rfl
    split at h
    · rename_i he
      subst he
      simp at h; subst h
      refine ⟨_, ?_, two _ _⟩
      cases d <;> first | (exact (hni _ rfl).elim) | simp [Instr.typeAssert, run_underlying hd, hz]
    · rename_i he
      simp at h; subst h
      refine ⟨_, ?_, two _ _⟩
      cases d <;> first | (exact (hni _ rfl).elim) | simp [Instr.typeAssert, run_underlying hd, hz, he]
  · simp at h

def aIndexStr (T : Tab) (t : TypeId) (x i : AV) : Option AV :=
  match T t, asNat i, x with
  | some ⟨.str, _, _, _⟩, some i, .p (.v (.string s)) => if h : i < s.size then some (.p (.v (.int .u8 s[i].toNat))) else none
  | _, _, _ => none

theorem aIndexStr_ok {P : Program} {T : Tab} (hT : TabOk P T) {w : World} {g : Gh} {L : Nat → Blk} {t : TypeId} {x i y : AV} {u ui : Value} (h : aIndexStr T t x i = some y) (hv : VA w g L x u) (hi : VA w g L i ui) :
    ∃ v, (Instr.index t u ui).run P w = .ok v w ∧ VA w g L y v := by
  unfold aIndexStr at h
  split at h
  · rename_i i' s hTt hn
    have hu := (hT t _ hTt).str rfl
    obtain ⟨k, rfl⟩ := asNat_ok hn hi
    split at h
    · rename_i hlt
      simp at h; subst h
      simp only [VA, VP] at hv; subst hv
      refine ⟨_, ?_, by simp only [VA, VP]; rfl⟩
      simp [Instr.index, asIntOf, run_underlying hu, hlt]
    · simp at h
  · simp at h

end Go.Pl
