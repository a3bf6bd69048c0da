/- A call of a function: what its caller sees. -/
import Derived.Test.YtkaaolegkffckaaGreatDoorPlView
set_option linter.unusedVariables false
set_option linter.unusedSimpArgs false
namespace Go.Pl

def fnS (S : List Blk) : Nat → Blk := fun b => S.getD b .none

theorem fnS_none {S : List Blk} {b : Nat} (h : S.length ≤ b) : fnS S b = .none := by
  simp [fnS, List.getD_eq_getElem?_getD, List.getElem?_eq_none h]

/-- The function has a body, and is entered when it is called. -/
def Enters (P : Program) (f : FuncId) : Prop := ∃ fn, P.funcs[f]? = some fn ∧ (fn.name == "runtime.NumGoroutine") = false ∧ fn.body.isNone = false

/-- What a function does: to these values in this store, that value and that store. -/
def Sem (X : Env) (f : FuncId) (args : List AV) (S0 : List Blk) (r : AV) (S1 : List Blk) : Prop :=
  Enters X.P f ∧ S0.length ≤ S1.length ∧ ∀ (w : World) (g : Gh) (vs : List Value), Rel w g (fnS S0) → GlOk X w g.st → VAs w g (fnS S0) args vs →
    Calls X.P f vs.toArray w fun e w' => ∃ v, e = .returned v ∧ ∃ g', MA w g (fnS S0) w' g' (fnS S1) ∧ VA w' g' (fnS S1) r v

def idx (b : Nat) : List Nat → Option Nat
  | [] => none
  | c :: cs => if c = b then some 0 else match idx b cs with
    | some i => some (i + 1)
    | none => none

theorem idx_get {b : Nat} : ∀ {σl : List Nat} {i : Nat}, idx b σl = some i → σl[i]? = some b
  | [], i, h => by simp [idx] at h
  | c :: cs, i, h => by
    simp only [idx] at h
    split at h
    · rename_i hc; simp at h; subst h; simp [hc]
    · split at h
      · rename_i j hj; simp at h; subst h; simpa using idx_get hj
      · simp at h

mutual
def unren (σl : List Nat) (base : Nat → Nat) : AV → Option AV
  | .own b ver off len => match idx b σl with
    | some i => if base i ≤ ver then some (.own i (ver - base i) off len) else none
    | none => none
  | .bp b off => match idx b σl with
    | some i => some (.bp i off)
    | none => none
  | .ep b ver j off => match idx b σl with
    | some i => if base i ≤ ver then some (.ep i (ver - base i) j off) else none
    | none => none
  | .clo f caps => match unrens σl base caps with
    | some cs => some (.clo f cs)
    | none => none
  | .agg cs => match unrens σl base cs with
    | some cs => some (.agg cs)
    | none => none
  | .tup cs => match unrens σl base cs with
    | some cs => some (.tup cs)
    | none => none
  | .p x => some (.p x)
  | .nil i => some (.nil i)
  | .rp cs => some (.rp cs)
  | .any => some .any
def unrens (σl : List Nat) (base : Nat → Nat) : List AV → Option (List AV)
  | [] => some []
  | c :: cs => match unren σl base c, unrens σl base cs with
    | some c, some cs => some (c :: cs)
    | _, _ => none
end

/-- The caller's names of a called function's names. -/
def sg (σl : List Nat) (nx : Nat) (i : Nat) : Nat := match σl[i]? with
  | some b => b
  | none => nx + (i - σl.length)

section
variable {σl : List Nat} {base : Nat → Nat} {nx : Nat}

theorem sg_idx {b i : Nat} (h : idx b σl = some i) : sg σl nx i = b ∧ i < σl.length := by
  have := idx_get h
  exact ⟨by simp [sg, this], (List.getElem?_eq_some_iff.1 this).1⟩

mutual
theorem unren_ok : ∀ (x : AV) {y : AV}, unren σl base x = some y → ren (sg σl nx) base y = x ∧ below σl.length y = true
  | .own b ver off len, y, h => by
    simp only [unren] at h
    split at h
    · rename_i i hi
      obtain ⟨h1, h2⟩ := sg_idx (nx := nx) hi
      split at h
      · rename_i hv; simp at h; subst h; simp [ren, below, h1, h2]; omega
      · simp at h
    · simp at h
  | .bp b off, y, h => by
    simp only [unren] at h
    split at h
    · rename_i i hi
      obtain ⟨h1, h2⟩ := sg_idx (nx := nx) hi
      simp at h; subst h; simp [ren, below, h1, h2]
    · simp at h
  | .ep b ver j off, y, h => by
    simp only [unren] at h
    split at h
    · rename_i i hi
      obtain ⟨h1, h2⟩ := sg_idx (nx := nx) hi
      split at h
      · rename_i hv; simp at h; subst h; simp [ren, below, h1, h2]; omega
      · simp at h
    · simp at h
  | .clo f caps, y, h => by
    simp only [unren] at h
    split at h
    · rename_i cs hc
      simp at h; subst h
      obtain ⟨h1, h2⟩ := unrens_ok caps hc
      simp [ren, below, h1, h2]
    · simp at h
  | .agg caps, y, h => by
    simp only [unren] at h
    split at h
    · rename_i cs hc
      simp at h; subst h
      obtain ⟨h1, h2⟩ := unrens_ok caps hc
      simp [ren, below, h1, h2]
    · simp at h
  | .tup caps, y, h => by
    simp only [unren] at h
    split at h
    · rename_i cs hc
      simp at h; subst h
      obtain ⟨h1, h2⟩ := unrens_ok caps hc
      simp [ren, below, h1, h2]
    · simp at h
  | .p x, y, h => by simp [unren] at h; subst h; simp [ren, below]
  | .nil x, y, h => by simp [unren] at h; subst h; simp [ren, below]
  | .rp x, y, h => by simp [unren] at h; subst h; simp [ren, below]
  | .any, y, h => by simp [unren] at h; subst h; simp [ren, below]
theorem unrens_ok : ∀ (xs : List AV) {ys : List AV}, unrens σl base xs = some ys → rens (sg σl nx) base ys = xs ∧ belows σl.length ys = true
  | [], ys, h => by simp [unrens] at h; subst h; simp [rens, belows]
  | x :: xs, ys, h => by
    simp only [unrens] at h
    split at h
    · rename_i y ys' h1 h2
      simp at h; subst h
      obtain ⟨a1, a2⟩ := unren_ok x h1
      obtain ⟨b1, b2⟩ := unrens_ok xs h2
      simp [rens, belows, a1, a2, b1, b2]
    · simp at h
end
end

def verOf : Blk → Nat
  | .arr _ v _ _ => v
  | _ => 0

def baseOf (L : Nat → Blk) (σl : List Nat) (i : Nat) : Nat := match σl[i]? with
  | some b => verOf (L b)
  | none => 0

def unrenss (σl : List Nat) (base : Nat → Nat) : List (List AV) → Option (List (List AV))
  | [] => some []
  | e :: es => match unrens σl base e, unrenss σl base es with
    | some x, some xs => some (x :: xs)
    | _, _ => none

theorem unrenss_ok {σl : List Nat} {base : Nat → Nat} {nx : Nat} : ∀ (es : List (List AV)) {ds : List (List AV)}, unrenss σl base es = some ds → ds.map (rens (sg σl nx) base) = es ∧ ds.all (belows σl.length) = true
  | [], ds, h => by simp [unrenss] at h; subst h; simp
  | e :: es, ds, h => by
    simp only [unrenss] at h
    split at h
    · rename_i x xs h1 h2
      simp at h; subst h
      obtain ⟨a1, a2⟩ := unrens_ok (nx := nx) e h1
      obtain ⟨b1, b2⟩ := unrenss_ok (nx := nx) es h2
      simp [a1, a2, b1]
      simpa using b2
    · simp at h

def viewB (σl : List Nat) (base : Nat → Nat) (i : Nat) : Blk → Option Blk
  | .arr fz v es els => if base i ≤ v then (match unrenss σl base els with
    | some ds => some (.arr fz (v - base i) es ds)
    | none => none) else none
  | .box cells => match unrens σl base cells with
    | some cs => some (.box cs)
    | none => none
  | .it s pos => some (.it s pos)
  | _ => none

def views (L : Nat → Blk) (σl : List Nat) (base : Nat → Nat) : Nat → List Nat → Option (List Blk)
  | _, [] => some []
  | i, b :: bs => match viewB σl base i (L b), views L σl base (i + 1) bs with
    | some x, some xs => some (x :: xs)
    | _, _ => none

def nodup : List Nat → Bool
  | [] => true
  | x :: xs => !(xs.contains x) && nodup xs

theorem nodup_inj : ∀ {l : List Nat}, nodup l = true → ∀ (i j b : Nat), l[i]? = some b → l[j]? = some b → i = j
  | [], _, i, j, b, h, _ => by simp at h
  | x :: xs, hn, i, j, b, hi, hj => by
    simp only [nodup, Bool.and_eq_true, Bool.not_eq_true', List.contains_eq_mem, decide_eq_false_iff_not] at hn
    cases i with
    | zero =>
      cases j with
      | zero => rfl
      | succ j =>
        simp at hi hj; subst hi
        exact absurd (List.mem_of_getElem? hj) hn.1
    | succ i =>
      cases j with
      | zero =>
        simp at hi hj; subst hj
        exact absurd (List.mem_of_getElem? hi) hn.1
      | succ j => rw [nodup_inj hn.2 i j b (by simpa using hi) (by simpa using hj)]

theorem views_get {L : Nat → Blk} {σl : List Nat} {base : Nat → Nat} : ∀ {k : Nat} {bs : List Nat} {xs : List Blk}, views L σl base k bs = some xs →
    xs.length = bs.length ∧ ∀ (i : Nat) b, bs[i]? = some b → ∃ x, xs[i]? = some x ∧ viewB σl base (k + i) (L b) = some x
  | k, [], xs, h => by simp [views] at h; subst h; simp
  | k, b :: bs, xs, h => by
    simp only [views] at h
    split at h
    · rename_i x xs' h1 h2
      simp at h; subst h
      obtain ⟨a1, a2⟩ := views_get h2
      refine ⟨by simp [a1], fun i c hc => ?_⟩
      cases i with
      | zero => simp at hc; subst hc; exact ⟨x, rfl, h1⟩
      | succ i =>
        have := a2 i c (by simpa using hc)
        rwa [show k + 1 + i = k + (i + 1) by omega] at this
    · simp at h

theorem views_congr {L L2 : Nat → Blk} {σl : List Nat} {base : Nat → Nat} : ∀ {k : Nat} {bs : List Nat}, (∀ b ∈ bs, L2 b = L b) → views L2 σl base k bs = views L σl base k bs
  | _, [], _ => rfl
  | k, b :: bs, h => by simp only [views, h b (by simp), views_congr (k := k + 1) (bs := bs) fun c hc => h c (List.mem_cons_of_mem _ hc)]

theorem baseOf_congr {L L2 : Nat → Blk} {σl : List Nat} (h : ∀ b ∈ σl, L2 b = L b) : baseOf L2 σl = baseOf L σl := by
  funext i
  unfold baseOf
  cases hi : σl[i]? with
  | none => rfl
  | some b => simp only [h b (List.mem_of_getElem? hi)]

theorem viewB_ok {σl : List Nat} {base : Nat → Nat} {nx i : Nat} {x y : Blk} (h : viewB σl base i y = some x) :
    y = renB (sg σl nx) base i x ∧ boxBelow σl.length x = true := by
  cases y with
  | none => simp [viewB] at h
  | dead => simp [viewB] at h
  | arr fz v es els =>
    simp only [viewB] at h
    split at h
    · rename_i hv
      split at h
      · rename_i ds hd
        simp only [Option.some.injEq] at h; subst h
        obtain ⟨h1, h2⟩ := unrenss_ok (nx := nx) els hd
        refine ⟨?_, h2⟩
        simp only [renB, h1]
        rw [show v - base i + base i = v by omega]
      · simp at h
    · simp at h
  | box cells =>
    simp only [viewB] at h
    split at h
    · rename_i cs hc
      simp at h; subst h
      obtain ⟨h1, h2⟩ := unrens_ok (nx := nx) cells hc
      simp [renB, h1, boxBelow, h2]
    · simp at h
  | it s pos =>
    simp [viewB] at h; subst h
    simp [renB, boxBelow]

theorem fnS_get {S : List Blk} {i : Nat} {x : Blk} (h : S[i]? = some x) : fnS S i = x := by simp [fnS, List.getD_eq_getElem?_getD, h]

theorem sg_inj {σl : List Nat} {nx : Nat} (hn : nodup σl = true) (hlt : ∀ b ∈ σl, b < nx) (i j : Nat) (h : sg σl nx i = sg σl nx j) : i = j := by
  unfold sg at h
  cases hi : σl[i]? with
  | some b =>
    cases hj : σl[j]? with
    | some c =>
      simp only [hi, hj] at h
      subst h
      exact nodup_inj hn i j b hi hj
    | none =>
      simp only [hi, hj] at h
      have := hlt b (List.mem_of_getElem? hi)
      omega
  | none =>
    cases hj : σl[j]? with
    | some c =>
      simp only [hi, hj] at h
      have := hlt c (List.mem_of_getElem? hj)
      omega
    | none =>
      simp only [hi, hj] at h
      have h1 := List.getElem?_eq_none_iff.1 hi
      have h2 := List.getElem?_eq_none_iff.1 hj
      omega

theorem view_of {L : Nat → Blk} {σl : List Nat} {nx : Nat} {S0 : List Blk} (hn : nodup σl = true) (hlt : ∀ b ∈ σl, b < nx) (h : views L σl (baseOf L σl) 0 σl = some S0) :
    S0.length = σl.length ∧ View (sg σl nx) (baseOf L σl) σl.length (fnS S0) L ∧ ∀ i, i < σl.length → boxBelow σl.length (fnS S0 i) = true := by
  obtain ⟨h1, h2⟩ := views_get h
  have key : ∀ i, i < σl.length → ∃ b x, σl[i]? = some b ∧ fnS S0 i = x ∧ sg σl nx i = b ∧ viewB σl (baseOf L σl) i (L b) = some x := fun i hi => by
    have hb : σl[i]? = some σl[i] := by simp [hi]
    obtain ⟨x, hx, hv⟩ := h2 i _ hb
    exact ⟨σl[i], x, hb, fnS_get hx, by simp [sg, hb], by simpa using hv⟩
  refine ⟨h1, ⟨fun i hi => ?_, fun i hi => fnS_none (by omega), fun i j _ _ e => sg_inj hn hlt i j e⟩, fun i hi => ?_⟩
  · obtain ⟨b, x, hb, rfl, hs, hv⟩ := key i hi
    rw [hs]
    exact (viewB_ok hv).1
  · obtain ⟨b, x, hb, rfl, hs, hv⟩ := key i hi
    exact (viewB_ok (nx := nx) hv).2

def settleV1 (L : Nat → Blk) (x : AV) : Option (AV × Us) :=
  match settle1 deepN L x with
    | some (p, us) => some (.p p, us)
    | none => none
/-- A value settled. -/
def settleV (L : Nat → Blk) : AV → Option (AV × Us)
  | .agg cs => match settles L cs with
    | some (ps, us) => some (.agg (ps.map .p), us)
    | none => none
  | x => settleV1 L x

/-- Can it be settled, by its form? -/
def setl1 : AV → Bool
  | .p _ | .nil _ | .own .. => true
  | _ => false
def setl : AV → Bool
  | .agg cs => cs.all setl1
  | x => setl1 x

/-- Which arguments go as settled values, and which under their names. -/
def settleArgs : (Nat → Blk) → List Bool → List AV → Option (List AV × Us)
  | _, _, [] => some ([], [])
  | L, ms, x :: xs => if ms.headD false || !setl x then (match settleArgs L ms.tail xs with
      | some (ys, u2) => some (x :: ys, u2)
      | none => none)
    else match settleV L x with
      | some (p, u1) => (match settleArgs (upds L u1) ms.tail xs with
        | some (ys, u2) => some (p :: ys, u1 ++ u2)
        | none => none)
      | none => none

theorem settleV_ok {w g} {L : Nat → Blk} (r : Rel w g L) {x y : AV} {us : Us} (h : settleV L x = some (y, us)) :
    ∃ g', g'.m = g.m ∧ Mv w g L (· ∈ us.map (·.1)) w g' (upds L us) ∧ ∀ u, VA w g L x u → VA w g' (upds L us) y u := by
  have single : ∀ {x : AV}, settleV1 L x = some (y, us) → ∃ g', g'.m = g.m ∧ Mv w g L (· ∈ us.map (·.1)) w g' (upds L us) ∧ ∀ u, VA w g L x u → VA w g' (upds L us) y u := by
    intro x h
    unfold settleV1 at h
    split at h
    · rename_i p us' h1
      simp only [Option.some.injEq, Prod.mk.injEq] at h
      obtain ⟨rfl, rfl⟩ := h
      obtain ⟨g', e, m, hv⟩ := settle1_ok deepN w g L x p us' r h1
      exact ⟨g', e, m, fun u hu => by simp only [VA]; exact hv u hu⟩
    · simp at h
  cases x with
  | agg cs =>
    simp only [settleV] at h
    split at h
    · rename_i ps us' h1
      simp only [Option.some.injEq, Prod.mk.injEq] at h
      obtain ⟨rfl, rfl⟩ := h
      obtain ⟨hl, g', e, m, hv⟩ := settles_ok r h1
      refine ⟨g', e, m, fun u hu => ?_⟩
      simp only [VA] at hu ⊢
      obtain ⟨vs, rfl, hvs⟩ := hu
      refine ⟨vs, rfl, VAs_of (by simp [VAs_len hvs, hl]) fun j x hx => ?_⟩
      simp only [List.getElem?_map, Option.map_eq_some_iff] at hx
      obtain ⟨p, hp, rfl⟩ := hx
      have hj : j < cs.length := by have := (List.getElem?_eq_some_iff.1 hp).1; omega
      obtain ⟨u, hu1, hu2⟩ := VAs_get hvs j cs[j] (by simp [hj])
      exact ⟨u, hu1, by simp only [VA]; exact hv j _ p (by simp [hj]) hp u hu2⟩
    · simp at h
  | _ => simp only [settleV] at h; exact single h

theorem settleArgs_ok : ∀ {xs ys : List AV} {ms : List Bool} {us : Us} {w g} {L : Nat → Blk} (r : Rel w g L), settleArgs L ms xs = some (ys, us) →
    ∃ g', g'.m = g.m ∧ Mv w g L (· ∈ us.map (·.1)) w g' (upds L us) ∧ ∀ vs, VAs w g L xs vs → VAs w g' (upds L us) ys vs
  | [], ys, ms, us, w, g, L, r, h => by
    simp [settleArgs] at h; obtain ⟨rfl, rfl⟩ := h
    exact ⟨g, rfl, Mv.refl r _, fun vs hv => hv⟩
  | x :: xs, ys, ms, us, w, g, L, r, h => by
    simp only [settleArgs] at h
    split at h
    · split at h
      · rename_i ys' u2 h2
        simp only [Option.some.injEq, Prod.mk.injEq] at h
        obtain ⟨rfl, rfl⟩ := h
        obtain ⟨g', e, m, hv⟩ := settleArgs_ok r h2
        refine ⟨g', e, m, fun vs hvs => ?_⟩
        simp only [VAs] at hvs ⊢
        obtain ⟨u, us', rfl, h1, h3⟩ := hvs
        exact ⟨u, us', rfl, VA.ev m.ev _ _ h1, hv _ h3⟩
      · simp at h
    · split at h
      · rename_i p u1 h1
        split at h
        · rename_i ys' u2 h2
          simp only [Option.some.injEq, Prod.mk.injEq] at h
          obtain ⟨rfl, rfl⟩ := h
          obtain ⟨g1, e1, m1, hv1⟩ := settleV_ok r h1
          obtain ⟨g2, e2, m2, hv2⟩ := settleArgs_ok m1.rel h2
          refine ⟨g2, e2.trans e1, m1.us m2, fun vs hvs => ?_⟩
          simp only [VAs] at hvs ⊢
          obtain ⟨u, us', rfl, h3, h4⟩ := hvs
          rw [upds_append]
          exact ⟨u, us', rfl, VA.ev m2.ev _ _ (hv1 u h3), hv2 _ (VAs.ev m1.ev _ _ h4)⟩
        · simp at h
      · simp at h

theorem settleV_congr {L L2 : Nat → Blk} {x y : AV} {us : Us} (h : settleV L x = some (y, us)) (ha : ∀ q ∈ us, L q.1 = L2 q.1) : settleV L2 x = some (y, us) := by
  have single : ∀ {x : AV}, settleV1 L x = some (y, us) → settleV1 L2 x = some (y, us) := by
    intro x h
    unfold settleV1 at h ⊢
    split at h
    · rename_i p us' h1
      simp only [Option.some.injEq, Prod.mk.injEq] at h
      obtain ⟨rfl, rfl⟩ := h
      rw [settle1_congr deepN L L2 x p us' h1 ha]
    · simp at h
  cases x with
  | agg cs =>
    simp only [settleV] at h ⊢
    split at h
    · rename_i ps us' h1
      simp only [Option.some.injEq, Prod.mk.injEq] at h
      obtain ⟨rfl, rfl⟩ := h
      rw [settles_congr h1 ha]
    · simp at h
  | _ => simp only [settleV] at h ⊢; exact single h

theorem settleArgs_congr : ∀ {xs ys : List AV} {ms : List Bool} {us : Us} {L L2 : Nat → Blk}, settleArgs L ms xs = some (ys, us) → (∀ q ∈ us, L q.1 = L2 q.1) → settleArgs L2 ms xs = some (ys, us)
  | [], ys, ms, us, L, L2, h, _ => h
  | x :: xs, ys, ms, us, L, L2, h, ha => by
    simp only [settleArgs] at h ⊢
    split at h
    · rename_i hc
      rw [if_pos hc]
      split at h
      · rename_i ys' u2 h2
        simp only [Option.some.injEq, Prod.mk.injEq] at h
        obtain ⟨rfl, rfl⟩ := h
        rw [settleArgs_congr h2 ha]
      · simp at h
    · rename_i hc
      rw [if_neg hc]
      split at h
      · rename_i p u1 h1
        split at h
        · rename_i ys' u2 h2
          simp only [Option.some.injEq, Prod.mk.injEq] at h
          obtain ⟨rfl, rfl⟩ := h
          rw [settleV_congr h1 fun q hq => ha q (by simp [hq])]
          simp only
          rw [settleArgs_congr h2 fun q hq => upds_agree u1 (ha q (by simp [hq]))]
        · simp at h
      · simp at h

def isArr : Blk → Bool
  | .arr .. => true
  | _ => false

def AllArr (L : Nat → Blk) (us : Us) : Prop := ∀ q ∈ us, isArr (L q.1) = true

theorem AllArr.app {L : Nat → Blk} {u1 u2 : Us} (h1 : AllArr L u1) (h2 : AllArr (upds L u1) u2) : AllArr L (u1 ++ u2) := by
  intro q hq
  rcases List.mem_append.1 hq with hq | hq
  · exact h1 q hq
  · by_cases hm : ∃ p ∈ u1, p.1 = q.1
    · obtain ⟨p, hp, e⟩ := hm
      rw [← e]; exact h1 p hp
    · have := h2 q hq
      rwa [upds_out u1 L fun p hp e => hm ⟨p, hp, e⟩] at this

theorem thread_arr {f : (Nat → Blk) → AV → Option (PV × Us)} (hf : ∀ L x p us, f L x = some (p, us) → AllArr L us) : ∀ (cs : List AV) {L : Nat → Blk} {ps us}, thread f L cs = some (ps, us) → AllArr L us
  | [], L, ps, us, h => by simp [thread] at h; obtain ⟨rfl, rfl⟩ := h; intro q hq; simp at hq
  | c :: cs, L, ps, us, h => by
    simp only [thread] at h
    split at h
    · rename_i p u1 h1
      split at h
      · rename_i ps' u2 h2
        simp only [Option.some.injEq, Prod.mk.injEq] at h
        obtain ⟨rfl, rfl⟩ := h
        exact (hf _ _ _ _ h1).app (thread_arr hf cs h2)
      · simp at h
    · simp at h

theorem threads_arr {f : (Nat → Blk) → AV → Option (PV × Us)} (hf : ∀ L x p us, f L x = some (p, us) → AllArr L us) : ∀ (es : List (List AV)) {L : Nat → Blk} {ps us}, threads f L es = some (ps, us) → AllArr L us
  | [], L, ps, us, h => by simp [threads] at h; obtain ⟨rfl, rfl⟩ := h; intro q hq; simp at hq
  | c :: cs, L, ps, us, h => by
    simp only [threads] at h
    split at h
    · rename_i p u1 h1
      split at h
      · rename_i ps' u2 h2
        simp only [Option.some.injEq, Prod.mk.injEq] at h
        obtain ⟨rfl, rfl⟩ := h
        exact (thread_arr hf _ h1).app (threads_arr hf cs h2)
      · simp at h
    · simp at h

theorem settle1_arr : ∀ n L x p us, settle1 n L x = some (p, us) → AllArr L us := by
  intro n
  induction n with
  | zero =>
    intro L x p us h
    have : us = [] := by
      cases x with
      | clo f caps => cases caps <;> simp [settle1] at h; exact h.2
      | p => simp [settle1] at h; exact h.2
      | nil => simp [settle1] at h; exact h.2
      | _ => simp [settle1] at h
    subst this
    intro q hq; simp at hq
  | succ n ih =>
    intro L x p us h
    cases x with
    | own b ver off len =>
      simp only [settle1] at h
      cases hL : L b with
      | arr fz v es els =>
        simp only [hL] at h
        split at h
        · split at h
          · rename_i pss us1 h1
            split at h
            · simp at h
            · simp only [Option.some.injEq, Prod.mk.injEq] at h
              obtain ⟨rfl, rfl⟩ := h
              intro q hq
              rcases List.mem_append.1 hq with hq | hq
              · exact threads_arr ih _ h1 q hq
              · simp at hq; subst hq; simp [hL, isArr]
          · simp at h
        · simp at h
      | _ => simp [hL] at h
    | clo f caps =>
      have : us = [] := by cases caps <;> simp [settle1] at h; exact h.2
      subst this
      intro q hq; simp at hq
    | p => simp [settle1] at h; obtain ⟨_, rfl⟩ := h; intro q hq; simp at hq
    | nil => simp [settle1] at h; obtain ⟨_, rfl⟩ := h; intro q hq; simp at hq
    | _ => simp [settle1] at h

theorem settleV_arr {L : Nat → Blk} {x y : AV} {us : Us} (h : settleV L x = some (y, us)) : AllArr L us := by
  have single : ∀ {x : AV}, settleV1 L x = some (y, us) → AllArr L us := by
    intro x h
    unfold settleV1 at h
    split at h
    · rename_i p us' h1
      simp only [Option.some.injEq, Prod.mk.injEq] at h
      obtain ⟨rfl, rfl⟩ := h
      exact settle1_arr _ _ _ _ _ h1
    · simp at h
  cases x with
  | agg cs =>
    simp only [settleV] at h
    split at h
    · rename_i ps us' h1
      simp only [Option.some.injEq, Prod.mk.injEq] at h
      obtain ⟨rfl, rfl⟩ := h
      exact thread_arr (settle1_arr _) _ h1
    · simp at h
  | _ => simp only [settleV] at h; exact single h

theorem settleArgs_arr : ∀ {xs ys : List AV} {ms : List Bool} {us : Us} {L : Nat → Blk}, settleArgs L ms xs = some (ys, us) → AllArr L us
  | [], ys, ms, us, L, h => by simp [settleArgs] at h; obtain ⟨_, rfl⟩ := h; intro q hq; simp at hq
  | x :: xs, ys, ms, us, L, h => by
    simp only [settleArgs] at h
    split at h
    · split at h
      · rename_i ys' u2 h2
        simp only [Option.some.injEq, Prod.mk.injEq] at h
        obtain ⟨rfl, rfl⟩ := h
        exact settleArgs_arr h2
      · simp at h
    · split at h
      · rename_i p u1 h1
        split at h
        · rename_i ys' u2 h2
          simp only [Option.some.injEq, Prod.mk.injEq] at h
          obtain ⟨rfl, rfl⟩ := h
          exact (settleV_arr h1).app (settleArgs_arr h2)
        · simp at h
      · simp at h

theorem AllArr.none {L : Nat → Blk} {us : Us} (h : AllArr L us) {b : Nat} (hb : L b = .none) : upds L us b = .none := by
  rw [upds_out us L fun p hp e => ?_]
  · exact hb
  · have := h p hp
    rw [e, hb] at this
    simp [isArr] at this

/-- What a call hands over: the values, the store, what is settled by it. -/
def callIn (L : Nat → Blk) (nx : Nat) (ms : List Bool) (σl : List Nat) (args caps : List AV) : Option (List AV × List Blk × Us) :=
  match settleArgs L ms args with
  | some (xs, us) => if nodup σl = true ∧ σl.all (fun b => decide (b < nx)) = true then (match unrens σl (baseOf (upds L us) σl) (xs ++ caps), views (upds L us) σl (baseOf (upds L us) σl) 0 σl with
    | some ys, some S0 => some (ys, S0, us)
    | _, _ => none) else none
  | none => none

def callUs (L : Nat → Blk) (us : Us) (σl : List Nat) (nx : Nat) (S1 : List Blk) : Us :=
  us ++ (List.range S1.length).map fun i => (sg σl nx i, renB (sg σl nx) (baseOf (upds L us) σl) i (fnS S1 i))

def callY (L : Nat → Blk) (us : Us) (σl : List Nat) (nx : Nat) (r : AV) : AV := ren (sg σl nx) (baseOf (upds L us) σl) r

theorem callIn_congr {L L2 : Nat → Blk} {nx : Nat} {ms : List Bool} {σl : List Nat} {args caps ys : List AV} {S0 : List Blk} {us : Us} (h : callIn L nx ms σl args caps = some (ys, S0, us)) (h1 : ∀ q ∈ us, L q.1 = L2 q.1) (h2 : ∀ b ∈ σl, L b = L2 b) :
    callIn L2 nx ms σl args caps = some (ys, S0, us) := by
  unfold callIn at h ⊢
  split at h
  · rename_i xs us' hs
    split at h
    · rename_i hc
      split at h
      · rename_i ys' S0' hu hv
        simp only [Option.some.injEq, Prod.mk.injEq] at h
        obtain ⟨rfl, rfl, rfl⟩ := h
        rw [settleArgs_congr hs h1]
        simp only [if_pos hc]
        rw [baseOf_congr (L := upds L us') (L2 := upds L2 us') fun b hb => (upds_agree us' (h2 b hb)).symm, views_congr (L := upds L us') (L2 := upds L2 us') fun b hb => (upds_agree us' (h2 b hb)).symm, hu, hv]
      · simp at h
    · simp at h
  · simp at h

theorem upds_range {L : Nat → Blk} {σ : Nat → Nat} {x : Nat → Blk} : ∀ (n : Nat), (∀ i j, i < n → j < n → σ i = σ j → i = j) →
    (∀ i, i < n → upds L ((List.range n).map fun i => (σ i, x i)) (σ i) = x i) ∧ ∀ b, (∀ i, i < n → b ≠ σ i) → upds L ((List.range n).map fun i => (σ i, x i)) b = L b
  | 0, _ => by simp [upds]
  | n + 1, hinj => by
    obtain ⟨h1, h2⟩ := upds_range (L := L) (σ := σ) (x := x) n fun i j hi hj => hinj i j (by omega) (by omega)
    rw [List.range_succ, List.map_append, upds_append]
    simp only [List.map_cons, List.map_nil, upds]
    constructor
    · intro i hi
      by_cases hin : i = n
      · subst hin; simp
      · have hne : σ i ≠ σ n := fun e => hin (hinj i n hi (by omega) e)
        rw [upd_other _ _ hne]
        exact h1 i (by omega)
    · intro b hb
      rw [upd_other _ _ (hb n (by omega))]
      exact h2 b fun i hi => hb i (by omega)

/-- A call, wherever its arguments and the blocks that it sees are the same. -/
theorem call_op {X : Env} {o : Oper} {fx : Operand} {args : Array Operand} {tys : Array TypeId} {tm : List AV} {L : Nat → Blk} {nx : Nat} {ms : List Bool} {σl : List Nat} {f : FuncId} {caps ys : List AV} {S0 S1 : List Blk} {fr : Us} {r : AV}
    (ho : o.op = .call ⟨.value fx, args, tys⟩) (hf : aEval X tm fx = .clo f caps) (hin : callIn L nx ms σl (args.toList.map (aEval X tm)) caps = some (ys, S0, fr))
    (hnew : ∀ b, nx ≤ b → b < nx + (S1.length - σl.length) → L b = .none) (hs : Sem X f ys S0 r S1) : OpOk X o tm L (callY L fr σl nx r) (callUs L fr σl nx S1) := by
  intro w g a rel hg ht next Q hn
  unfold callIn at hin
  split at hin
  rotate_left
  · simp at hin
  rename_i xs fr' hset
  split at hin
  rotate_left
  · simp at hin
  rename_i hnd
  split at hin
  rotate_left
  · simp at hin
  rename_i ys' S0' hun hvw
  simp only [Option.some.injEq, Prod.mk.injEq] at hin
  obtain ⟨rfl, rfl, rfl⟩ := hin
  obtain ⟨hnd, hlt⟩ := hnd
  have hlt : ∀ b ∈ σl, b < nx := by simpa using hlt
  obtain ⟨⟨fn, hfn, hname, hbody⟩, hle, hcall⟩ := hs
  obtain ⟨g1, hg1, hm1, hargs1⟩ := settleArgs_ok rel hset
  -- the values
  have hav : VAs w g L (args.toList.map (aEval X tm)) (args.toList.map a.eval) := VAs_eval ht hg _
  have hav1 := hargs1 _ hav
  have hfv := eval_ok ht hg fx
  rw [hf] at hfv
  have hfv1 := VA.ev hm1.ev _ _ hfv
  simp only [VA] at hfv1
  obtain ⟨cv, hcv, hcaps⟩ := hfv1
  have hall : VAs w g1 (upds L fr') (xs ++ caps) (args.toList.map a.eval ++ cv) := by
    have : ∀ {xs : List AV} {us : List Value}, VAs w g1 (upds L fr') xs us → VAs w g1 (upds L fr') (xs ++ caps) (us ++ cv) := by
      intro xs
      induction xs with
      | nil => intro us h; simp only [VAs] at h; subst h; exact hcaps
      | cons x xs ih => intro us h; simp only [VAs] at h; obtain ⟨u, us', rfl, h1, h2⟩ := h; simp only [List.cons_append, VAs]; exact ⟨u, _, rfl, h1, ih h2⟩
    exact this hav1
  obtain ⟨hren, hbel⟩ := unrens_ok (nx := nx) _ hun
  obtain ⟨hlen, hview, hbox⟩ := view_of (nx := nx) hnd hlt hvw
  rw [← hren] at hall
  have hargs := VAs_down (gv := ghV g1 (sg σl nx)) hview.D (fun _ _ => rfl) rfl _ _ hbel hall
  have hrel := hm1.rel.view hview.D hbox
  have hgl : GlOk X w (ghV g1 (sg σl nx)).st := hg.keep hm1.ev.keep
  have hc := hcall w (ghV g1 (sg σl nx)) _ hrel hgl hargs
  have hrun : (execOp a.eval o).run X.P w = .ok (.enter f (args.toList.map a.eval ++ cv).toArray) w := by
    have he : (args.map a.eval ++ cv.toArray) = (args.toList.map a.eval ++ cv).toArray := by
      apply Array.toList_inj.1
      simp
    have hn1 : ¬ fn.name = "runtime.NumGoroutine" := by simpa using hname
    have hb1 : ¬ fn.body = none := by intro e; simp [e] at hbody
    simp [execOp, ho, resolve, hcv, Deferred.ofValue, invoke, callFunc, hfn, hn1, hb1, he]
  unfold Oper.wp
  rw [hrun, Oper.upon_enter]
  refine Calls.mono hc fun e w' h => ?_
  obtain ⟨v, rfl, g', hm2, hv⟩ := h
  have hinj : ∀ i j, i < S1.length → j < S1.length → sg σl nx i = sg σl nx j → i = j := fun i j _ _ e => sg_inj hnd hlt i j e
  obtain ⟨u1, u2⟩ := upds_range (L := upds L fr') (σ := sg σl nx) (x := fun i => renB (sg σl nx) (baseOf (upds L fr') σl) i (fnS S1 i)) S1.length hinj
  have hL' : upds L (callUs L fr' σl nx S1) = upds (upds L fr') ((List.range S1.length).map fun i => (sg σl nx i, renB (sg σl nx) (baseOf (upds L fr') σl) i (fnS S1 i))) := by
    unfold callUs
    rw [upds_append]
  have hview' : View (sg σl nx) (baseOf (upds L fr') σl) S1.length (fnS S1) (upds L (callUs L fr' σl nx S1)) := by
    refine ⟨fun i hi => ?_, fun i hi => fnS_none hi, hinj⟩
    rw [hL']; exact u1 i hi
  have q1 : ∀ i, σl.length ≤ i → i < S1.length → upds L fr' (sg σl nx i) = .none := fun i h1 h2 => by
    have hs : sg σl nx i = nx + (i - σl.length) := by simp [sg, List.getElem?_eq_none h1]
    exact (settleArgs_arr hset).none (hnew _ (by omega) (by omega))
  have q2 : ∀ b, (∀ i, i < S1.length → b ≠ sg σl nx i) → upds L (callUs L fr' σl nx S1) b = upds L fr' b := fun b hb => by rw [hL']; exact u2 b hb
  obtain ⟨g'', hm3, hgm, hgs⟩ := MA.up hm1.rel hview (by omega) hm2 hview' q1 q2
  exact hn v w' g'' (hm1.all.then hm3) (VA_up hview' hgm hgs r v hv)

end Go.Pl
