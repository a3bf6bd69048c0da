/- Settling values, and storing cells. -/
import Derived.Test.YtkaaolegkffckaaGreatDoorPlVal
set_option linter.unusedVariables false
set_option linter.unusedSimpArgs false
namespace Go.Pl

abbrev Us := List (Nat × Blk)

def upds (L : Nat → Blk) : Us → (Nat → Blk)
  | [] => L
  | (b, x) :: us => upds (upd L b x) us

theorem upds_append (L : Nat → Blk) : ∀ (us vs : Us), upds L (us ++ vs) = upds (upds L us) vs
  | [], _ => rfl
  | (b, x) :: us, vs => by simp only [List.cons_append, upds]; exact upds_append _ us vs

theorem upds_out {b : Nat} : ∀ (us : Us) (L : Nat → Blk), (∀ p ∈ us, p.1 ≠ b) → upds L us b = L b
  | [], _, _ => rfl
  | (c, x) :: us, L, h => by
    simp only [upds]
    rw [upds_out us _ fun p hp => h p (List.mem_cons_of_mem _ hp), upd_other _ _ (fun e => h (c, x) (by simp) e.symm)]

/-- One after the other, each over what those ahead of it have settled. -/
def thread (f : (Nat → Blk) → AV → Option (PV × Us)) : (Nat → Blk) → List AV → Option (List PV × Us)
  | _, [] => some ([], [])
  | L, c :: cs => match f L c with
    | some (p, u1) => (match thread f (upds L u1) cs with
      | some (ps, u2) => some (p :: ps, u1 ++ u2)
      | none => none)
    | none => none

def threads (f : (Nat → Blk) → AV → Option (PV × Us)) : (Nat → Blk) → List (List AV) → Option (List (List PV) × Us)
  | _, [] => some ([], [])
  | L, e :: es => match thread f L e with
    | some (p, u1) => (match threads f (upds L u1) es with
      | some (ps, u2) => some (p :: ps, u1 ++ u2)
      | none => none)
    | none => none

def psA (pss : List (List PV)) : List (List AV) := pss.map fun e => e.map .p

/-- A value told inline; what is settled by it. -/
def settle1 : Nat → (Nat → Blk) → AV → Option (PV × Us)
  | _, _, .p x => some (x, [])
  | _, _, .nil _ => some (.sl [], [])
  | _, _, .clo f [] => some (.v (.func (.func f) #[] #[]), [])
  | n + 1, L, .own b ver off len => match L b with
    | .arr _ v es els => if ver = v ∧ off + len ≤ els.length then (match threads (settle1 n) L els with
      | some (pss, us) => if us.any (fun p => p.1 == b) then none else some (.sl ((pss.drop off).take len), us ++ [(b, .arr true v es (psA pss))])
      | none => none) else none
    | _ => none
  | _, _, _ => none

/-- How deep arrays may lie in arrays. -/
def deepN : Nat := 5
def settles (L : Nat → Blk) (cs : List AV) : Option (List PV × Us) := thread (settle1 deepN) L cs

section
variable {w : World} {g : Gh} {L : Nat → Blk}

theorem upd_self (L : Nat → Blk) (b : Nat) : upd L b (L b) = L := by
  funext i
  by_cases h : i = b
  · subst h; simp
  · exact upd_other _ _ h

/-- Moves one after the other, told by their updates. -/
theorem Mv.us {w g L w1 g1 w2 g2} {u1 u2 : Us} (h : Mv w g L (· ∈ u1.map (·.1)) w1 g1 (upds L u1)) (k : Mv w1 g1 (upds L u1) (· ∈ u2.map (·.1)) w2 g2 (upds (upds L u1) u2)) :
    Mv w g L (· ∈ (u1 ++ u2).map (·.1)) w2 g2 (upds L (u1 ++ u2)) := by
  rw [upds_append]
  exact (h.mono (W' := (· ∈ (u1 ++ u2).map (·.1))) fun i hi => by simp only [List.map_append, List.mem_append]; exact .inl hi).trans k fun i hi => .inl (by simp only [List.map_append, List.mem_append]; exact .inr hi)

/-- What settling one value gives. -/
def SetOk (f : (Nat → Blk) → AV → Option (PV × Us)) : Prop :=
  ∀ (w : World) (g : Gh) (L : Nat → Blk) (x : AV) (p : PV) (us : Us), Rel w g L → f L x = some (p, us) →
    ∃ g', g'.m = g.m ∧ Mv w g L (· ∈ us.map (·.1)) w g' (upds L us) ∧ ∀ u, VA w g L x u → VP w g'.st p u

theorem thread_ok {f : (Nat → Blk) → AV → Option (PV × Us)} (hf : SetOk f) : ∀ (cs : List AV) (w : World) (g : Gh) (L : Nat → Blk) (ps : List PV) (us : Us), Rel w g L → thread f L cs = some (ps, us) →
    ps.length = cs.length ∧ ∃ g', g'.m = g.m ∧ Mv w g L (· ∈ us.map (·.1)) w g' (upds L us) ∧ ∀ (j : Nat) x p, cs[j]? = some x → ps[j]? = some p → ∀ u, VA w g L x u → VP w g'.st p u
  | [], w, g, L, ps, us, r, h => by
    simp [thread] at h; obtain ⟨rfl, rfl⟩ := h
    exact ⟨rfl, g, rfl, Mv.refl r _, fun j x p hx => by simp at hx⟩
  | c :: cs, w, g, L, ps, us, r, h => by
    simp only [thread] at h
    split at h
    · rename_i p u1 h1
      split at h
      · rename_i ps' u2 h2
        simp only [Option.some.injEq, Prod.mk.injEq] at h
        obtain ⟨rfl, rfl⟩ := h
        obtain ⟨g1, e1, m1, v1⟩ := hf w g L c p u1 r h1
        obtain ⟨hl, g2, e2, m2, v2⟩ := thread_ok hf cs w g1 (upds L u1) ps' u2 m1.rel h2
        refine ⟨by simp [hl], g2, e2.trans e1, m1.us m2, fun j x q hx hq u hu => ?_⟩
        cases j with
        | zero => simp at hx hq; subst hx; subst hq; exact VP.keep m2.ev.keep _ _ (v1 u hu)
        | succ j => exact v2 j x q (by simpa using hx) (by simpa using hq) u (VA.ev m1.ev x u hu)
      · simp at h
    · simp at h

theorem threads_ok {f : (Nat → Blk) → AV → Option (PV × Us)} (hf : SetOk f) : ∀ (es : List (List AV)) (w : World) (g : Gh) (L : Nat → Blk) (pss : List (List PV)) (us : Us), Rel w g L → threads f L es = some (pss, us) →
    pss.length = es.length ∧ ∃ g', g'.m = g.m ∧ Mv w g L (· ∈ us.map (·.1)) w g' (upds L us) ∧
      ∀ (i : Nat) e ps, es[i]? = some e → pss[i]? = some ps → ps.length = e.length ∧ ∀ (j : Nat) x p, e[j]? = some x → ps[j]? = some p → ∀ u, VA w g L x u → VP w g'.st p u
  | [], w, g, L, ps, us, r, h => by
    simp [threads] at h; obtain ⟨rfl, rfl⟩ := h
    exact ⟨rfl, g, rfl, Mv.refl r _, fun j x p hx => by simp at hx⟩
  | c :: cs, w, g, L, ps, us, r, h => by
    simp only [threads] at h
    split at h
    · rename_i p u1 h1
      split at h
      · rename_i ps' u2 h2
        simp only [Option.some.injEq, Prod.mk.injEq] at h
        obtain ⟨rfl, rfl⟩ := h
        obtain ⟨hl1, g1, e1, m1, v1⟩ := thread_ok hf c w g L p u1 r h1
        obtain ⟨hl, g2, e2, m2, v2⟩ := threads_ok hf cs w g1 (upds L u1) ps' u2 m1.rel h2
        refine ⟨by simp [hl], g2, e2.trans e1, m1.us m2, fun i e q hx hq => ?_⟩
        cases i with
        | zero => simp at hx hq; subst hx; subst hq; exact ⟨hl1, fun j x p hx hp u hu => VP.keep m2.ev.keep _ _ (v1 j x p hx hp u hu)⟩
        | succ i =>
          obtain ⟨h1, h2⟩ := v2 i e q (by simpa using hx) (by simpa using hq)
          exact ⟨h1, fun j x p hx hp u hu => h2 j x p hx hp u (VA.ev m1.ev x u hu)⟩
      · simp at h
    · simp at h

theorem psA_get {pss : List (List PV)} {i : Nat} {e : List AV} (h : (psA pss)[i]? = some e) : ∃ ps, pss[i]? = some ps ∧ e = ps.map .p := by
  simp only [psA, List.getElem?_map, Option.map_eq_some_iff] at h
  obtain ⟨ps, h1, rfl⟩ := h
  exact ⟨ps, h1, rfl⟩

theorem psA_length (pss : List (List PV)) : (psA pss).length = pss.length := by simp [psA]

/-- A frozen array's elements read inline. -/
theorem own_VP {b v off len es : Nat} {pss : List (List PV)} (r : Rel w g L) (hb : L b = .arr true v es (psA pss)) (hle : off + len ≤ pss.length) {u : Value} (hv : VA w g L (.own b v off len) u) :
    VP w g.st (.sl ((pss.drop off).take len)) u := by
  have hlen : ((pss.drop off).take len).length = len := by simp; omega
  simp only [VA, hb] at hv
  have hv2 := hv.2.2 trivial
  have hbo := r.blk b
  rw [hb] at hbo
  simp only [BlkOk] at hbo
  simp only [VP, hlen]
  cases hm : g.m b with
  | none =>
    simp only [hm] at hv2
    obtain ⟨rfl, rfl, a, rfl⟩ := hv2
    exact ⟨a, 0, rfl, Nat.le_refl _, .inl (by simp)⟩
  | some t =>
    obtain ⟨k, o, n⟩ := t
    simp only [hm] at hv2 hbo
    obtain ⟨hon, a, rfl, ha⟩ := hv2
    obtain ⟨huni, hln, c, el, fr, hh, _, _, h5, h6, _⟩ := hbo
    rw [psA_length] at hln
    refine ⟨a, n - off, rfl, by omega, ?_⟩
    by_cases hz : off < n
    · refine .inr ⟨k, o + off * es, ha hz, ?_⟩
      refine els_VEs (es := es) hh _ _ (fun e he => ?_) (fun i e he j y hy => ?_) (fun j hj => ?_)
      · have := huni (e.map .p) (List.mem_map.2 ⟨e, List.mem_of_mem_drop (List.mem_of_mem_take he), rfl⟩)
        simpa using this
      · rw [List.getElem?_take] at he
        split at he
        · rw [List.getElem?_drop] at he
          obtain ⟨u, hu1, hu2, hu3⟩ := h5 (off + i) (e.map .p) (by simp [psA, he]) j (.p y) (by simp [hy])
          refine ⟨u, by rwa [show o + (off + i) * es + j = o + off * es + i * es + j by rw [Nat.add_mul]; omega] at hu1, hu2, by simpa only [VA] using hu3⟩
        · simp at he
      · rw [hlen] at hj
        have h7 := (h6 trivial).1 (off * es + j) (by
          rw [psA_length]
          have : (off + len) * es ≤ pss.length * es := Nat.mul_le_mul_right _ hle
          rw [Nat.add_mul] at this
          omega)
        rwa [← Nat.add_assoc] at h7
    · left
      have : len = 0 := by omega
      subst this; simp

/-- An array whose cells can be told inline is settled. -/
theorem freezeTo (r : Rel w g L) {b v es : Nat} {fz : Bool} {els : List (List AV)} {pss : List (List PV)} (hL : L b = .arr fz v es els) (hl : pss.length = els.length)
    (hp : ∀ (i : Nat) e ps, els[i]? = some e → pss[i]? = some ps → ps.length = e.length ∧ ∀ (j : Nat) x p, e[j]? = some x → ps[j]? = some p → ∀ u, VA w g L x u → VP w g.st p u) :
    ∃ g', g'.m = g.m ∧ Mv w g L (· = b) w g' (upd L b (.arr true v es (psA pss))) := by
  have hb := r.blk b
  rw [hL] at hb
  simp only [BlkOk] at hb
  have hlive : Live (L b) := by rw [hL]; trivial
  have retell : Mv w g L (· = b) w g (upd L b (.arr fz v es (psA pss))) := by
    refine Mv.retell r b _ (fun _ => hlive) (by simp [hL, BlkLe]) fun ev => ?_
    simp only [BlkOk]
    have huni : ∀ e ∈ psA pss, e.length = es := fun e he => by
      obtain ⟨i, hi⟩ := List.getElem?_of_mem he
      obtain ⟨ps, h1, rfl⟩ := psA_get hi
      have hil : i < els.length := by have := (List.getElem?_eq_some_iff.1 h1).1; omega
      have h2 := (hp i els[i] ps (by simp [hil]) h1).1
      rw [List.length_map, h2]
      exact hb.1 _ (List.getElem_mem hil)
    refine ⟨huni, ?_⟩
    have h2 := hb.2
    cases hm : g.m b with
    | none =>
      simp only [hm] at h2
      subst h2
      have : pss = [] := List.eq_nil_of_length_eq_zero (by simpa using hl)
      subst this; rfl
    | some t =>
      obtain ⟨k, o, n⟩ := t
      simp only [hm] at h2
      obtain ⟨hln, c, el, fr, hh, h3, h4, h5, h6, h7⟩ := h2
      refine ⟨by rw [psA_length, hl]; exact hln, c, el, fr, hh, h3, h4, fun i e he j x hx => ?_, fun hf => ?_, h7⟩
      · obtain ⟨ps, hps, rfl⟩ := psA_get he
        have hil : i < els.length := by have := (List.getElem?_eq_some_iff.1 hps).1; omega
        obtain ⟨h8, h9⟩ := hp i els[i] ps (by simp [hil]) hps
        simp only [List.getElem?_map, Option.map_eq_some_iff] at hx
        obtain ⟨p, hp1, rfl⟩ := hx
        have hjl : j < els[i].length := by have := (List.getElem?_eq_some_iff.1 hp1).1; omega
        obtain ⟨u, hu1, hu2, hu3⟩ := h5 i els[i] (by simp [hil]) j els[i][j] (by simp [hjl])
        exact ⟨u, hu1, hu2, by simp only [VA]; exact VP.keep ev.keep _ _ (h9 j _ p (by simp [hjl]) hp1 u hu3)⟩
      · rw [psA_length, hl]; exact h6 hf
  cases fz with
  | true => exact ⟨g, rfl, retell⟩
  | false =>
    cases hm : g.m b with
    | some t =>
      obtain ⟨k, o, n⟩ := t
      have m2 := Mv.freeze retell.rel b (v := v) (es := es) (els := psA pss) (by simp) hm
      refine ⟨settle g k o ((psA pss).length * es), rfl, ?_⟩
      have := retell.trans m2 fun i hi => .inl hi
      have e : upd (upd L b (.arr false v es (psA pss))) b (.arr true v es (psA pss)) = upd L b (.arr true v es (psA pss)) := by
        funext i; unfold upd; split <;> rfl
      rwa [e] at this
    | none =>
      refine ⟨g, rfl, Mv.retell r b _ (fun _ => hlive) (by simp [hL, BlkLe]) fun ev => ?_⟩
      have h2 := hb.2
      simp only [hm] at h2
      subst h2
      have : pss = [] := List.eq_nil_of_length_eq_zero (by simpa using hl)
      subst this
      simp [BlkOk, hm, psA]

theorem settle1_ok : ∀ n, SetOk (settle1 n) := by
  intro n
  induction n with
  | zero =>
    intro w g L x p us r h
    cases x with
    | p y => simp [settle1] at h; obtain ⟨rfl, rfl⟩ := h; exact ⟨g, rfl, Mv.refl r _, fun u hu => by simpa only [VA] using hu⟩
    | nil i =>
      simp [settle1] at h; obtain ⟨rfl, rfl⟩ := h
      refine ⟨g, rfl, Mv.refl r _, fun u hu => ?_⟩
      simp only [VA] at hu
      obtain ⟨a, rfl, _⟩ := hu
      simp only [VP]
      exact ⟨a, 0, rfl, Nat.le_refl _, .inl trivial⟩
    | clo f caps =>
      cases caps with
      | nil =>
        simp [settle1] at h; obtain ⟨rfl, rfl⟩ := h
        refine ⟨g, rfl, Mv.refl r _, fun u hu => ?_⟩
        simp only [VA, VAs] at hu
        obtain ⟨cv, rfl, rfl⟩ := hu
        simp only [VP]
      | cons => simp [settle1] at h
    | _ => simp [settle1] at h
  | succ n ih =>
    intro w g L x p us r h
    cases x with
    | p y => simp [settle1] at h; obtain ⟨rfl, rfl⟩ := h; exact ⟨g, rfl, Mv.refl r _, fun u hu => by simpa only [VA] using hu⟩
    | nil i =>
      simp [settle1] at h; obtain ⟨rfl, rfl⟩ := h
      refine ⟨g, rfl, Mv.refl r _, fun u hu => ?_⟩
      simp only [VA] at hu
      obtain ⟨a, rfl, _⟩ := hu
      simp only [VP]
      exact ⟨a, 0, rfl, Nat.le_refl _, .inl trivial⟩
    | clo f caps =>
      cases caps with
      | nil =>
        simp [settle1] at h; obtain ⟨rfl, rfl⟩ := h
        refine ⟨g, rfl, Mv.refl r _, fun u hu => ?_⟩
        simp only [VA, VAs] at hu
        obtain ⟨cv, rfl, rfl⟩ := hu
        simp only [VP]
      | cons => simp [settle1] at h
    | own b ver off len =>
      simp only [settle1] at h
      cases hL : L b with
      | arr fz v es els =>
        simp only [hL] at h
        split at h
        · rename_i hc
          obtain ⟨rfl, hle⟩ := hc
          split at h
          · rename_i pss us1 h1
            split at h
            · simp at h
            · rename_i hne
              simp only [Option.some.injEq, Prod.mk.injEq] at h
              obtain ⟨rfl, rfl⟩ := h
              obtain ⟨hl, g1, e1, m1, v1⟩ := threads_ok ih els w g L pss us1 r h1
              have hL1 : upds L us1 b = .arr fz ver es els := by
                rw [upds_out us1 L fun q hq e => hne (List.any_eq_true.2 ⟨q, hq, by simpa using e⟩)]
                exact hL
              have hb := r.blk b
              rw [hL] at hb
              -- every cell holds a value
              have hp : ∀ (i : Nat) e ps, els[i]? = some e → pss[i]? = some ps → ps.length = e.length ∧ ∀ (j : Nat) x p, e[j]? = some x → ps[j]? = some p → ∀ u, VA w g L x u → VP w g1.st p u := v1
              have main : ∃ g', g'.m = g1.m ∧ Mv w g1 (upds L us1) (· = b) w g' (upd (upds L us1) b (.arr true ver es (psA pss))) := by
                have hb1 := m1.rel.blk b
                rw [hL1] at hb1
                -- the cells' values over the older store
                have retell : Mv w g1 (upds L us1) (· = b) w g1 (upd (upds L us1) b (.arr fz ver es (psA pss))) := by
                  refine Mv.retell m1.rel b _ (fun _ => by rw [hL1]; trivial) (by simp [hL1, BlkLe]) fun ev => ?_
                  simp only [BlkOk] at hb hb1 ⊢
                  have huni : ∀ e ∈ psA pss, e.length = es := fun e he => by
                    obtain ⟨i, hi⟩ := List.getElem?_of_mem he
                    obtain ⟨ps, h1, rfl⟩ := psA_get hi
                    have hil : i < els.length := by have := (List.getElem?_eq_some_iff.1 h1).1; omega
                    have h2 := (hp i els[i] ps (by simp [hil]) h1).1
                    rw [List.length_map, h2]
                    exact hb.1 _ (List.getElem_mem hil)
                  refine ⟨huni, ?_⟩
                  have h2 := hb.2
                  have h3 := hb1.2
                  rw [e1] at h3 ⊢
                  cases hm : g.m b with
                  | none =>
                    simp only [hm] at h2
                    subst h2
                    have : pss = [] := List.eq_nil_of_length_eq_zero (by simpa using hl)
                    subst this; rfl
                  | some t =>
                    obtain ⟨k, o, n⟩ := t
                    simp only [hm] at h2 h3
                    obtain ⟨hln, c, el, fr, hh, q3, q4, q5, q6, q7⟩ := h2
                    obtain ⟨_, c', el', fr', hh', _, _, _, q6', q7'⟩ := h3
                    refine ⟨by rw [psA_length, hl]; exact hln, c, el, fr, hh, q3, q4, fun i e he j x hx => ?_, fun hf => ?_, q7'⟩
                    · obtain ⟨ps, hps, rfl⟩ := psA_get he
                      have hil : i < els.length := by have := (List.getElem?_eq_some_iff.1 hps).1; omega
                      obtain ⟨h8, h9⟩ := hp i els[i] ps (by simp [hil]) hps
                      simp only [List.getElem?_map, Option.map_eq_some_iff] at hx
                      obtain ⟨p, hp1, rfl⟩ := hx
                      have hjl : j < els[i].length := by have := (List.getElem?_eq_some_iff.1 hp1).1; omega
                      obtain ⟨u, hu1, hu2, hu3⟩ := q5 i els[i] (by simp [hil]) j els[i][j] (by simp [hjl])
                      exact ⟨u, hu1, hu2, by simp only [VA]; exact VP.keep ev.keep _ _ (h9 j _ p (by simp [hjl]) hp1 u hu3)⟩
                    · rw [psA_length, hl]; exact q6' hf
                obtain ⟨g2, e2, m2⟩ := freezeTo retell.rel (b := b) (v := ver) (es := es) (els := psA pss) (pss := pss) (by simp; rfl) (psA_length _).symm (fun i e ps he hps => by
                  obtain ⟨ps', h1, rfl⟩ := psA_get he
                  rw [hps] at h1
                  obtain rfl : ps = ps' := by simpa using h1
                  refine ⟨by simp, fun j x p hx hp u hu => ?_⟩
                  simp only [List.getElem?_map, Option.map_eq_some_iff] at hx
                  obtain ⟨q, hq, rfl⟩ := hx
                  rw [hp] at hq
                  obtain rfl : p = q := by simpa using hq
                  simpa only [VA] using hu)
                have e : ∀ x y, upd (upd (upds L us1) b x) b y = upd (upds L us1) b y := fun x y => by
                  funext i; unfold upd; split <;> rfl
                rw [e] at m2
                exact ⟨g2, e2, retell.trans m2 fun i hi => .inl hi⟩
              obtain ⟨g2, e2, m2⟩ := main
              refine ⟨g2, e2.trans e1, ?_, fun u hu => ?_⟩
              · exact m1.us (u2 := [(b, .arr true ver es (psA pss))]) (by simpa [upds] using m2)
              · have hu2 := VA.ev m2.ev _ u (VA.ev m1.ev _ u hu)
                exact own_VP m2.rel (by simp; rfl) (by omega) hu2
          · simp at h
        · simp at h
      | _ => simp [hL] at h
    | _ => simp [settle1] at h

theorem settles_ok (r : Rel w g L) {cs : List AV} {ps : List PV} {us : Us} (h : settles L cs = some (ps, us)) :
    ps.length = cs.length ∧ ∃ g', g'.m = g.m ∧ Mv w g L (· ∈ us.map (·.1)) w g' (upds L us) ∧ ∀ (j : Nat) x p, cs[j]? = some x → ps[j]? = some p → ∀ u, VA w g L x u → VP w g'.st p u :=
  thread_ok (settle1_ok _) cs w g L ps us r h

/-- A list with a piece written anew. -/
def wr {α : Type} (l : List α) (o : Nat) (vs : List α) : List α := l.take o ++ vs ++ l.drop (o + vs.length)

theorem wr_length {α : Type} (l : List α) (o : Nat) (vs : List α) (h : o + vs.length ≤ l.length) : (wr l o vs).length = l.length := by
  simp only [wr, List.length_append, List.length_take, List.length_drop]; omega

theorem wr_get {α : Type} (l : List α) (o : Nat) (vs : List α) (h : o + vs.length ≤ l.length) (j : Nat) : (wr l o vs)[j]? = if o ≤ j ∧ j < o + vs.length then vs[j - o]? else l[j]? := by
  simp only [wr, List.getElem?_append, List.length_append, List.length_take, List.getElem?_take, List.getElem?_drop]
  have : min o l.length = o := by omega
  rw [this]
  by_cases h1 : j < o
  · rw [if_pos (by omega), if_pos h1, if_pos h1, if_neg (by omega)]
  · by_cases h2 : j < o + vs.length
    · rw [if_pos h2, if_neg h1, if_pos ⟨by omega, h2⟩]
    · rw [if_neg h2, if_neg (by omega)]
      congr 1
      omega

/-- Cells that go into an array: as they are, or settled. -/
def preCells (nest : Bool) (L : Nat → Blk) (cs : List AV) : Option (List AV × Us) :=
  if nest then some (cs, []) else match settles L cs with
    | some (ps, us) => some (ps.map .p, us)
    | none => none

theorem preCells_ok (r : Rel w g L) {nest : Bool} {cs ds : List AV} {us : Us} (h : preCells nest L cs = some (ds, us)) :
    ds.length = cs.length ∧ ∃ g', g'.m = g.m ∧ Mv w g L (· ∈ us.map (·.1)) w g' (upds L us) ∧ ∀ vs, VAs w g L cs vs → VAs w g' (upds L us) ds vs := by
  unfold preCells at h
  split at h
  · simp at h; obtain ⟨rfl, rfl⟩ := h
    exact ⟨rfl, g, rfl, Mv.refl r _, fun vs hv => hv⟩
  · split at h
    · rename_i ps us' hs
      simp at h; obtain ⟨rfl, rfl⟩ := h
      obtain ⟨hl, g', e, m, hv⟩ := settles_ok r hs
      refine ⟨by simp [hl], g', e, m, fun vs hvs => VAs_of (by simp [VAs_len hvs, hl]) fun j x hx => ?_⟩
      simp only [List.getElem?_map, Option.map_eq_some_iff] at hx
      obtain ⟨p, hp, rfl⟩ := hx
      have hj : j < cs.length := by have := (List.getElem?_eq_some_iff.1 hp).1; omega
      obtain ⟨u, hu1, hu2⟩ := VAs_get hvs j cs[j] (by simp [hj])
      exact ⟨u, hu1, by simp only [VA]; exact hv j _ p (by simp [hj]) hp u hu2⟩
    · simp at h

/-- A store of some cells: which blocks turn. -/
def aStore (nest : Bool) (L : Nat → Blk) (x : AV) (cs : List AV) : Option Us :=
  match x with
  | .bp b off => match L b with
    | .box cells => if off + cs.length ≤ cells.length then some [(b, .box (wr cells off cs))] else none
    | _ => none
  | .ep b ver i off => match preCells nest L cs with
    | some (ds, us) => (match upds L us b with
      | .arr false v es els => if ver = v then (match els[i]? with
        | some e => if off + ds.length ≤ e.length then some (us ++ [(b, .arr false v es (els.set i (wr e off ds)))]) else none
        | none => none) else none
      | _ => none)
    | none => none
  | _ => none

/-- Where a store goes, and what it comes to. -/
theorem aStore_ok (r : Rel w g L) {nest : Bool} {x : AV} {cs : List AV} {u : Value} {vs : List Value} {us : Us} (h : aStore nest L x cs = some us) (hv : VA w g L x u) (hus : VAs w g L cs vs) (hone : ∀ v ∈ vs, v.oneCell' = true) :
    ∃ (k o : Nat) (cur : Array Value) (el : TypeId) (f : Nat × Nat), u = .pointer (some ⟨k, o, none⟩) ∧ w.heap[k]? = some (.cells cur el f) ∧ o + vs.length ≤ cur.size ∧ NoFz cur f ∧
      ∀ (w' : World) (c' : Array Value), Rew w w' k c' el f → c'.size = cur.size → NoFz c' f → (∀ j : Nat, c'[j]? = if o ≤ j ∧ j < o + vs.length then vs[j - o]? else cur[j]?) →
        ∃ g' : Gh, g'.m = g.m ∧ Mv w g L (· ∈ us.map (·.1)) w' g' (upds L us) := by
  have hlen := VAs_len hus
  cases x with
  | bp b' off =>
    simp only [aStore] at h
    simp only [VA] at hv
    replace hv := hv.2
    cases hL : L b' with
    | box cells =>
      simp only [hL] at h hv
      split at h
      · rename_i hn
        simp only [Option.some.injEq] at h
        subst h
        have hb := r.blk b'
        rw [hL] at hb
        simp only [BlkOk] at hb
        obtain ⟨k, m, hm, c, el, f, hh, hf, hsz, h5, h6⟩ := hb
        obtain ⟨k', m', hm', rfl⟩ := hv
        obtain ⟨rfl, rfl⟩ : k' = k ∧ m' = m := by rw [hm] at hm'; simp at hm'; exact ⟨hm'.1.symm, hm'.2.symm⟩
        refine ⟨k', off, c, el, f, rfl, hh, by omega, hf, fun w' c' hw hc hf' hj => ⟨g, rfl, ?_⟩⟩
        refine (Mv.write r hw b' 0 m' hm (by rw [hL]; trivial) h6 (.box (wr cells off cs)) (by simp [hL, BlkLe]) fun ev => ?_).mono fun i hi => by simp [hi]
        simp only [BlkOk]
        refine ⟨k', m', hm, c', el, f, hw.new, hf', by rw [wr_length _ _ _ hn]; omega, fun j y hy => ?_, h6⟩
        rw [wr_get _ _ _ hn] at hy
        rw [hj, hlen]
        split at hy
        · rename_i hjj
          rw [if_pos hjj]
          obtain ⟨v, hv1, hv2⟩ := VAs_get hus _ y hy
          exact ⟨v, hv1, VA.ev ev y v hv2⟩
        · rename_i hjj
          rw [if_neg hjj]
          obtain ⟨v, hv1, hv2⟩ := h5 j y hy
          exact ⟨v, hv1, VA.ev ev y v hv2⟩
      · simp at h
    | _ => simp [hL] at h
  | ep b' ver i off =>
    simp only [aStore] at h
    split at h
    · rename_i ds us1 hs
      obtain ⟨hdl, g1, hg1, m1, hps⟩ := preCells_ok r hs
      have hus1 := hps vs hus
      have hv1 := VA.ev m1.ev _ u hv
      cases hL : upds L us1 b' with
      | arr fz v es els =>
        cases fz with
        | true => simp [hL] at h
        | false =>
          simp only [hL] at h
          split at h
          · rename_i hver
            cases he : els[i]? with
            | none => simp [he] at h
            | some e =>
              simp only [he] at h
              split at h
              · rename_i hn
                simp only [Option.some.injEq] at h
                subst h
                simp only [VA, hL] at hv1
                obtain ⟨k, o, n, hm, rfl⟩ := hv1.2.2 hver
                have hb := m1.rel.blk b'
                rw [hL] at hb
                simp only [BlkOk, hm] at hb
                obtain ⟨huni, hln, c, el, f, hh, hf, hsz, h5, _, h7⟩ := hb
                have hil : i < els.length := (List.getElem?_eq_some_iff.1 he).1
                have heL : e.length = es := huni e (List.mem_of_getElem? he)
                have hbound : o + i * es + off + vs.length ≤ c.size := by
                  have : (i + 1) * es ≤ n * es := Nat.mul_le_mul_right _ (by omega)
                  rw [Nat.add_mul] at this
                  omega
                refine ⟨k, o + i * es + off, c, el, f, rfl, hh, hbound, hf, fun w' c' hw hc hf' hj => ⟨g1, hg1, ?_⟩⟩
                refine m1.us (u2 := [(b', .arr false v es (els.set i (wr e off ds)))]) ?_
                simp only [upds, List.map_cons, List.map_nil, List.mem_singleton]
                refine Mv.write m1.rel hw b' o n hm (by rw [hL]; trivial) (h7 trivial) (.arr false v es (els.set i (wr e off ds))) (by simp [hL, BlkLe]) fun ev => ?_
                simp only [BlkOk, hm]
                refine ⟨fun e' he' => ?_, by simpa using hln, c', el, f, hw.new, hf', by omega, fun i' e' he' j y hy => ?_, by simp, fun _ => h7 trivial⟩
                · rcases List.mem_or_eq_of_mem_set he' with he' | rfl
                  · exact huni e' he'
                  · rw [wr_length _ _ _ hn, heL]
                · rw [hj]
                  have he'L : e'.length = es := by
                    rcases List.mem_or_eq_of_mem_set (List.mem_of_getElem? he') with h' | rfl
                    · exact huni e' h'
                    · rw [wr_length _ _ _ hn, heL]
                  have hjl : j < es := by rw [← he'L]; exact (List.getElem?_eq_some_iff.1 hy).1
                  rw [List.getElem?_set] at he'
                  by_cases hii : i = i'
                  · subst hii
                    rw [if_pos rfl, if_pos hil] at he'
                    obtain rfl : wr e off ds = e' := by simpa using he'
                    rw [wr_get _ _ _ hn] at hy
                    split at hy
                    · rename_i hjj
                      rw [if_pos (by omega)]
                      obtain ⟨v', hv1, hv2⟩ := VAs_get hus1 _ y hy
                      exact ⟨v', by rwa [show o + i * es + j - (o + i * es + off) = j - off by omega], hone v' (List.mem_of_getElem? hv1), VA.ev ev y v' hv2⟩
                    · rename_i hjj
                      rw [if_neg (by omega)]
                      obtain ⟨v', hv1, ho, hv2⟩ := h5 i e he j y hy
                      exact ⟨v', hv1, ho, VA.ev ev y v' hv2⟩
                  · rw [if_neg hii] at he'
                    rw [if_neg (by
                      rcases Nat.lt_or_ge i i' with hlt | hge
                      · have : (i + 1) * es ≤ i' * es := Nat.mul_le_mul_right _ hlt
                        rw [Nat.add_mul] at this
                        omega
                      · have : (i' + 1) * es ≤ i * es := Nat.mul_le_mul_right _ (by omega)
                        rw [Nat.add_mul] at this
                        omega)]
                    obtain ⟨v', hv1, ho, hv2⟩ := h5 i' e' he' j y hy
                    exact ⟨v', hv1, ho, VA.ev ev y v' hv2⟩
              · simp at h
          · simp at h
      | _ => simp [hL] at h
    · simp at h
  | _ => simp [aStore] at h
end
end Go.Pl
