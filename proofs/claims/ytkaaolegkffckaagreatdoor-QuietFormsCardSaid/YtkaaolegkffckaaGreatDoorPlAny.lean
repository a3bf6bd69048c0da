/- A region in any order that its edges allow. -/
import Derived.Test.YtkaaolegkffckaaGreatDoorPlReg
set_option linter.unusedVariables false
set_option linter.unusedSimpArgs false
namespace Go.Pl

def tmAt (os : List Oper) (rs : List Rec) (D : Nat → Bool) (tm : List AV) : Nat → List AV
  | 0 => tm
  | n + 1 => match D n, os[n]?, rs[n]? with
    | true, some o, some r => putA (tmAt os rs D tm n) o.dst r.y
    | _, _, _ => tmAt os rs D tm n

def LAt (rs : List Rec) (D : Nat → Bool) (L : Nat → Blk) : Nat → (Nat → Blk)
  | 0 => L
  | n + 1 => match D n, rs[n]? with
    | true, some r => upds (LAt rs D L n) r.us
    | _, _ => LAt rs D L n

theorem putA_get {tm : List AV} {d : Option Tmp} {y : AV} {k : Nat} (h : d ≠ some k) : (putA tm d y)[k]? = tm[k]? := by
  cases d with
  | none => rfl
  | some d => simp only [putA]; rw [List.getElem?_set_ne]; intro e; exact h (by rw [e])

theorem putA_cong {tm tm2 : List AV} (d : Option Tmp) (y : AV) {k : Nat} (h : tm[k]? = tm2[k]?) : (putA tm d y)[k]? = (putA tm2 d y)[k]? := by
  cases d with
  | none => exact h
  | some d =>
    simp only [putA]
    by_cases hd : d = k
    · subst hd
      by_cases h1 : d < tm.length
      · have h2 : d < tm2.length := by
          rw [List.getElem?_eq_getElem h1] at h
          exact (List.getElem?_eq_some_iff.1 h.symm).1
        simp [h1, h2]
      · have h2 : ¬ d < tm2.length := by
          intro h2
          rw [List.getElem?_eq_none (l := tm) (Nat.le_of_not_lt h1), List.getElem?_eq_getElem h2] at h
          cases h
        rw [List.getElem?_eq_none (by simpa using h1), List.getElem?_eq_none (by simpa using h2)]
    · rw [List.getElem?_set_ne hd, List.getElem?_set_ne hd]; exact h

section
variable {os : List Oper} {rs : List Rec} {D D' : Nat → Bool} {tm : List AV} {L : Nat → Blk}

theorem tmAt_agree {k : Nat} : ∀ n, (∀ i o, i < n → os[i]? = some o → D i ≠ D' i → o.dst ≠ some k) → (tmAt os rs D tm n)[k]? = (tmAt os rs D' tm n)[k]?
  | 0, _ => rfl
  | n + 1, h => by
    have ih := tmAt_agree n fun i o hi => h i o (by omega)
    simp only [tmAt]
    cases ho : os[n]? with
    | none => cases D n <;> cases D' n <;> simpa using ih
    | some o =>
      cases hr : rs[n]? with
      | none => cases D n <;> cases D' n <;> simpa using ih
      | some r =>
        have hn := h n o (by omega) ho
        cases h1 : D n <;> cases h2 : D' n <;> simp only [h1, h2] at hn ⊢
        · exact ih
        · rw [putA_get (hn (by simp))]; exact ih
        · rw [putA_get (hn (by simp))]; exact ih
        · exact putA_cong _ _ ih

theorem LAt_agree {b : Nat} : ∀ n, (∀ i r, i < n → rs[i]? = some r → D i ≠ D' i → b ∉ r.us.map (·.1)) → LAt rs D L n b = LAt rs D' L n b
  | 0, _ => rfl
  | n + 1, h => by
    have ih := LAt_agree n fun i o hi => h i o (by omega)
    simp only [LAt]
    cases hr : rs[n]? with
    | none => cases D n <;> cases D' n <;> simpa using ih
    | some r =>
      have hn := h n r (by omega) hr
      have key : D n ≠ D' n → wrOf b r.us = none := fun hne => by
        cases hw : wrOf b r.us with
        | none => rfl
        | some x => exact absurd (wrOf_mem b r.us (by simp [hw])) (hn hne)
      cases h1 : D n <;> cases h2 : D' n <;> simp only [h1, h2] at key ⊢
      · exact ih
      · rw [upds_get, key (by simp)]; exact ih
      · rw [upds_get, key (by simp)]; exact ih
      · rw [upds_get, upds_get, ih]

theorem tmAt_trim {j : Nat} : ∀ n, j ≤ n → (∀ i, j ≤ i → i < n → D i = false) → tmAt os rs D tm n = tmAt os rs D tm j
  | 0, h, _ => by rw [show j = 0 by omega]
  | n + 1, h, hd => by
    by_cases hj : j = n + 1
    · rw [hj]
    · simp only [tmAt, hd n (by omega) (by omega)]
      exact tmAt_trim n (by omega) fun i h1 h2 => hd i h1 (by omega)

theorem LAt_trim {j : Nat} : ∀ n, j ≤ n → (∀ i, j ≤ i → i < n → D i = false) → LAt rs D L n = LAt rs D L j
  | 0, h, _ => by rw [show j = 0 by omega]
  | n + 1, h, hd => by
    by_cases hj : j = n + 1
    · rw [hj]
    · simp only [LAt, hd n (by omega) (by omega)]
      exact LAt_trim n (by omega) fun i h1 h2 => hd i h1 (by omega)

theorem tmAt_same : ∀ n, (∀ i, i < n → D i = D' i) → tmAt os rs D tm n = tmAt os rs D' tm n
  | 0, _ => rfl
  | n + 1, h => by simp only [tmAt, h n (by omega), tmAt_same n fun i hi => h i (by omega)]

theorem LAt_same : ∀ n, (∀ i, i < n → D i = D' i) → LAt rs D L n = LAt rs D' L n
  | 0, _ => rfl
  | n + 1, h => by simp only [LAt, h n (by omega), LAt_same n fun i hi => h i (by omega)]

theorem putA_comm (tm : List AV) {d e : Option Tmp} (x y : AV) (h : ∀ k, d = some k → e ≠ some k) : putA (putA tm d x) e y = putA (putA tm e y) d x := by
  cases d with
  | none => rfl
  | some d =>
    cases e with
    | none => rfl
    | some e =>
      simp only [putA]
      exact List.set_comm _ _ (fun he => h d rfl (by rw [he]))

theorem upds_comm (L : Nat → Blk) {us vs : List (Nat × Blk)} (h : ∀ b, b ∈ us.map (·.1) → b ∉ vs.map (·.1)) : upds (upds L us) vs = upds (upds L vs) us := by
  funext b
  simp only [upds_get]
  cases h1 : wrOf b us with
  | none => simp
  | some x =>
    cases h2 : wrOf b vs with
    | none => simp
    | some y => exact absurd (wrOf_mem b vs (by simp [h2])) (h b (wrOf_mem b us (by simp [h1])))

def ins (D : Nat → Bool) (j : Nat) : Nat → Bool := fun i => if i = j then true else D i

theorem tmAt_ins {j : Nat} {o : Oper} {r : Rec} (ho : os[j]? = some o) (hr : rs[j]? = some r) (hD : D j = false) : ∀ n, j < n →
    (∀ i oi, j < i → i < n → os[i]? = some oi → D i = true → ∀ k, o.dst = some k → oi.dst ≠ some k) →
    tmAt os rs (ins D j) tm n = putA (tmAt os rs D tm n) o.dst r.y
  | 0, h, _ => by omega
  | n + 1, h, hd => by
    by_cases hj : j = n
    · subst hj
      simp only [tmAt, ins, if_true, ho, hr, hD]
      rw [tmAt_same (D := ins D j) (D' := D) j fun i hi => by simp [ins, show i ≠ j by omega]]
    · have ih := tmAt_ins ho hr hD n (by omega) fun i oi h1 h2 => hd i oi h1 (by omega)
      simp only [tmAt]
      have hDn : ins D j n = D n := by simp [ins, show n ≠ j by omega]
      rw [hDn, ih]
      cases h1 : D n with
      | false => simp
      | true =>
        cases h2 : os[n]? with
        | none => simp
        | some oi =>
          cases h3 : rs[n]? with
          | none => simp
          | some ri =>
            simp only
            exact putA_comm _ _ _ (hd n oi (by omega) (by omega) h2 h1)

theorem LAt_ins {j : Nat} {r : Rec} (hr : rs[j]? = some r) (hD : D j = false) : ∀ n, j < n →
    (∀ i ri, j < i → i < n → rs[i]? = some ri → D i = true → ∀ b, b ∈ r.us.map (·.1) → b ∉ ri.us.map (·.1)) →
    LAt rs (ins D j) L n = upds (LAt rs D L n) r.us
  | 0, h, _ => by omega
  | n + 1, h, hd => by
    by_cases hj : j = n
    · subst hj
      simp only [LAt, ins, if_true, hr, hD]
      rw [LAt_same (D := ins D j) (D' := D) j fun i hi => by simp [ins, show i ≠ j by omega]]
    · have ih := LAt_ins hr hD n (by omega) fun i oi h1 h2 => hd i oi h1 (by omega)
      simp only [LAt]
      have hDn : ins D j n = D n := by simp [ins, show n ≠ j by omega]
      rw [hDn, ih]
      cases h1 : D n with
      | false => simp
      | true =>
        cases h3 : rs[n]? with
        | none => simp
        | some ri =>
          simp only
          exact upds_comm _ (hd n ri (by omega) (by omega) h3 h1)

theorem tmAt_shift {o : Oper} {r : Rec} : ∀ n, tmAt (o :: os) (r :: rs) (fun _ => true) tm (n + 1) = tmAt os rs (fun _ => true) (putA tm o.dst r.y) n
  | 0 => rfl
  | n + 1 => by
    rw [tmAt]
    simp only [List.getElem?_cons_succ, tmAt_shift n]
    rfl

theorem LAt_shift {r : Rec} : ∀ n, LAt (r :: rs) (fun _ => true) L (n + 1) = LAt rs (fun _ => true) (upds L r.us) n
  | 0 => rfl
  | n + 1 => by
    rw [LAt]
    simp only [List.getElem?_cons_succ, LAt_shift n]
    rfl
end

theorem Chain.len {X ops} : ∀ {os tm L rs tm' L'}, Chain X ops os tm L rs tm' L' → rs.length = os.length
  | _, _, _, _, _, _, .nil => rfl
  | _, _, _, _, _, _, .cons _ h => by simp [h.len]

theorem Chain.last {X ops} : ∀ {os tm L rs tm' L'}, Chain X ops os tm L rs tm' L' → tm' = tmAt os rs (fun _ => true) tm os.length ∧ L' = LAt rs (fun _ => true) L os.length
  | _, _, _, _, _, _, .nil => ⟨rfl, rfl⟩
  | _, _, _, _, _, _, .cons _ h => by
    simp only [List.length_cons, tmAt_shift, LAt_shift]
    exact h.last

theorem Chain.at {X ops} : ∀ {os tm L rs tm' L'}, Chain X ops os tm L rs tm' L' → ∀ i o r, os[i]? = some o → rs[i]? = some r →
    RecOk X ops o (tmAt os rs (fun _ => true) tm i) (LAt rs (fun _ => true) L i) r
  | _, _, _, _, _, _, .nil, i, o, r, ho, _ => by simp at ho
  | _, _, _, _, _, _, .cons h1 h2, 0, o, r, ho, hr => by
    simp at ho hr; subst ho; subst hr; exact h1
  | _, _, _, _, _, _, .cons h1 h2, i + 1, o, r, ho, hr => by
    rw [tmAt_shift, LAt_shift]
    exact h2.at i o r (by simpa using ho) (by simpa using hr)

/-- What must come ahead of each operation, as bits. -/
def presGo : List Oper → List Nat → List Nat
  | [], acc => acc
  | o :: os, acc => presGo os (acc ++ [o.after.toList.foldl (fun m e => if Region.binds .any e then m ||| 2 ^ e.on ||| acc.getD e.on 0 else m) 0])

def noConf (ops : Array Oper) (o o' : Oper) (r r' : Rec) : Bool :=
  o.apart ops o' && r.us.all (fun p => !(r'.rd.contains p.1) && !(r'.us.any (·.1 == p.1))) && r'.us.all (fun p => !(r.rd.contains p.1))

def calmAt (ops : Array Oper) (pre : Nat) (o : Oper) (r : Rec) : Nat → List Oper → List Rec → Bool
  | _, [], _ => true
  | _, _, [] => true
  | i, o' :: os, r' :: rs => (pre.testBit i || noConf ops o' o r' r) && calmAt ops pre o r (i + 1) os rs

def backAt (j : Nat) (o : Oper) : Bool := o.after.toList.all fun e => !(Region.binds .any e) || e.on < j

/-- No two operations that stand in no order touch one another. -/
def calmGo (ops : Array Oper) (osAll : List Oper) (rsAll : List Rec) (pres : List Nat) : Nat → List Oper → List Rec → Bool
  | _, [], _ => true
  | _, _, [] => true
  | j, o :: os, r :: rs => backAt j o && calmAt ops (pres.getD j 0) o r 0 (osAll.take j) rsAll && calmGo ops osAll rsAll pres (j + 1) os rs

/-- The temporaries' part of it: it looks at the text alone. -/
def calmAtT (ops : Array Oper) (pre : Nat) (o : Oper) : Nat → List Oper → Bool
  | _, [] => true
  | i, o' :: os => (pre.testBit i || o'.apart ops o) && calmAtT ops pre o (i + 1) os

def calmGoT (ops : Array Oper) (osAll : List Oper) (pres : List Nat) : Nat → List Oper → Bool
  | _, [] => true
  | j, o :: os => backAt j o && calmAtT ops (pres.getD j 0) o 0 (osAll.take j) && calmGoT ops osAll pres (j + 1) os

def calmT (ops : Array Oper) : Bool := calmGoT ops ops.toList (presGo ops.toList []) 0 ops.toList

/-- The blocks' part. -/
def noConfB (r r' : Rec) : Bool :=
  (match r.us, r'.us with
    | [], [] => true
    | _, _ => r.us.all (fun p => !(r'.rd.contains p.1) && !(r'.us.any (·.1 == p.1))) && r'.us.all (fun p => !(r.rd.contains p.1)))

def calmAtB (pre : Nat) (r : Rec) : Nat → List Rec → Bool
  | _, [] => true
  | i, r' :: rs => (noConfB r' r || pre.testBit i) && calmAtB pre r (i + 1) rs

def calmGoB (pres : List Nat) : Nat → List Rec → List Rec → Bool
  | _, _, [] => true
  | j, done, r :: rs => calmAtB (pres.getD j 0) r 0 done && calmGoB pres (j + 1) (done ++ [r]) rs

def presOf (ops : Array Oper) : List Nat := presGo ops.toList []

def calm (ops : Array Oper) (rs : List Rec) : Bool := calmT ops && (rs.all (fun r => r.us.isEmpty) || calmGoB (presOf ops) 0 [] rs)

def Closed (os : List Oper) (D : Nat → Bool) : Prop := ∀ i o, os[i]? = some o → D i = true → ∀ e ∈ o.after.toList, Region.binds .any e = true → D e.on = true

theorem mask_ok {D : Nat → Bool} {acc : List Nat} : ∀ (es : List Edge) (m : Nat), (∀ e ∈ es, Region.binds .any e = true → D e.on = true ∧ ∀ i, (acc.getD e.on 0).testBit i = true → D i = true) →
    (∀ i, m.testBit i = true → D i = true) → ∀ i, (es.foldl (fun m e => if Region.binds .any e then m ||| 2 ^ e.on ||| acc.getD e.on 0 else m) m).testBit i = true → D i = true
  | [], m, _, hm, i, h => hm i h
  | e :: es, m, he, hm, i, h => by
    simp only [List.foldl_cons] at h
    refine mask_ok es _ (fun e' h' => he e' (by simp [h'])) (fun k hk => ?_) i h
    by_cases hb : Region.binds .any e = true
    · simp only [hb, if_true, Nat.testBit_or, Bool.or_eq_true, Nat.testBit_two_pow, decide_eq_true_eq] at hk
      obtain ⟨h1, h2⟩ := he e (by simp) hb
      rcases hk with (hk | hk) | hk
      · exact hm k hk
      · subst hk; exact h1
      · exact h2 k hk
    · simp only [hb, if_false, Bool.false_eq_true] at hk
      exact hm k hk

/-- What the bits say lies in every closed set. -/
theorem pres_ok {osAll : List Oper} {D : Nat → Bool} (hc : Closed osAll D) : ∀ (os : List Oper) (acc : List Nat), (∀ i, os[i]? = osAll[acc.length + i]?) →
    (∀ j, D j = true → ∀ i, (acc.getD j 0).testBit i = true → D i = true) →
    ∀ j, D j = true → ∀ i, ((presGo os acc).getD j 0).testBit i = true → D i = true
  | [], acc, _, h, j, hj, i, hi => h j hj i hi
  | o :: os, acc, ho, h, j, hj, i, hi => by
    refine pres_ok hc os _ (fun i => ?_) (fun j hj i hi => ?_) j hj i hi
    · have := ho (i + 1)
      simp only [List.getElem?_cons_succ] at this
      rw [this]; simp; congr 1; omega
    · by_cases hl : j < acc.length
      · have : (acc ++ [o.after.toList.foldl (fun m e => if Region.binds .any e then m ||| 2 ^ e.on ||| acc.getD e.on 0 else m) 0]).getD j 0 = acc.getD j 0 := by
          simp [List.getD, List.getElem?_append_left hl]
        rw [this] at hi
        exact h j hj i hi
      · by_cases hl2 : j = acc.length
        · subst hl2
          have : (acc ++ [o.after.toList.foldl (fun m e => if Region.binds .any e then m ||| 2 ^ e.on ||| acc.getD e.on 0 else m) 0]).getD acc.length 0 = o.after.toList.foldl (fun m e => if Region.binds .any e then m ||| 2 ^ e.on ||| acc.getD e.on 0 else m) 0 := by
            simp [List.getD]
          rw [this] at hi
          have ho0 : osAll[acc.length]? = some o := by simpa using (ho 0).symm
          refine mask_ok _ 0 (fun e he hb => ?_) (by simp) i hi
          have hd := hc _ o ho0 hj e he hb
          exact ⟨hd, fun i hi => h _ hd i hi⟩
        · have : (acc ++ [o.after.toList.foldl (fun m e => if Region.binds .any e then m ||| 2 ^ e.on ||| acc.getD e.on 0 else m) 0]).getD j 0 = 0 := by
            rw [List.getD_eq_getElem?_getD, List.getElem?_eq_none (by simp; omega)]; rfl
          rw [this] at hi
          simp at hi

theorem calmAt_spec {ops : Array Oper} {pre : Nat} {o : Oper} {r : Rec} : ∀ {k : Nat} {os : List Oper} {rs : List Rec}, calmAt ops pre o r k os rs = true →
    ∀ i o' r', os[i]? = some o' → rs[i]? = some r' → pre.testBit (k + i) = true ∨ noConf ops o' o r' r = true
  | k, [], _, _, i, o', r', ho, _ => by simp at ho
  | k, _ :: _, [], _, i, o', r', _, hr => by simp at hr
  | k, o1 :: os, r1 :: rs, h, i, o', r', ho, hr => by
    simp only [calmAt, Bool.and_eq_true, Bool.or_eq_true] at h
    cases i with
    | zero => simp at ho hr; subst ho; subst hr; simpa using h.1
    | succ i =>
      have := calmAt_spec h.2 i o' r' (by simpa using ho) (by simpa using hr)
      rwa [show k + (i + 1) = k + 1 + i by omega]

theorem calmGo_spec {ops : Array Oper} {osAll : List Oper} {rsAll : List Rec} {pres : List Nat} : ∀ {k : Nat} {os : List Oper} {rs : List Rec}, calmGo ops osAll rsAll pres k os rs = true →
    ∀ i o r, os[i]? = some o → rs[i]? = some r → backAt (k + i) o = true ∧ calmAt ops (pres.getD (k + i) 0) o r 0 (osAll.take (k + i)) rsAll = true
  | k, [], _, _, i, o', r', ho, _ => by simp at ho
  | k, _ :: _, [], _, i, o', r', _, hr => by simp at hr
  | k, o1 :: os, r1 :: rs, h, i, o', r', ho, hr => by
    simp only [calmGo, Bool.and_eq_true] at h
    cases i with
    | zero => simp at ho hr; subst ho; subst hr; exact ⟨h.1.1, h.1.2⟩
    | succ i =>
      have := calmGo_spec h.2 i o' r' (by simpa using ho) (by simpa using hr)
      rwa [show k + (i + 1) = k + 1 + i by omega]

theorem calmAtT_spec {ops : Array Oper} {pre : Nat} {o : Oper} : ∀ {k : Nat} {os : List Oper}, calmAtT ops pre o k os = true →
    ∀ i o', os[i]? = some o' → pre.testBit (k + i) = true ∨ o'.apart ops o = true
  | k, [], _, i, o', ho => by simp at ho
  | k, o1 :: os, h, i, o', ho => by
    simp only [calmAtT, Bool.and_eq_true, Bool.or_eq_true] at h
    cases i with
    | zero => simp at ho; subst ho; simpa using h.1
    | succ i =>
      have := calmAtT_spec h.2 i o' (by simpa using ho)
      rwa [show k + (i + 1) = k + 1 + i by omega]

theorem calmGoT_spec {ops : Array Oper} {osAll : List Oper} {pres : List Nat} : ∀ {k : Nat} {os : List Oper}, calmGoT ops osAll pres k os = true →
    ∀ i o, os[i]? = some o → backAt (k + i) o = true ∧ calmAtT ops (pres.getD (k + i) 0) o 0 (osAll.take (k + i)) = true
  | k, [], _, i, o', ho => by simp at ho
  | k, o1 :: os, h, i, o', ho => by
    simp only [calmGoT, Bool.and_eq_true] at h
    cases i with
    | zero => simp at ho; subst ho; exact ⟨h.1.1, h.1.2⟩
    | succ i =>
      have := calmGoT_spec h.2 i o' (by simpa using ho)
      rwa [show k + (i + 1) = k + 1 + i by omega]

theorem calmAtB_spec {pre : Nat} {r : Rec} : ∀ {k : Nat} {rs : List Rec}, calmAtB pre r k rs = true →
    ∀ i r', rs[i]? = some r' → pre.testBit (k + i) = true ∨ noConfB r' r = true
  | k, [], _, i, o', ho => by simp at ho
  | k, o1 :: os, h, i, o', ho => by
    simp only [calmAtB, Bool.and_eq_true, Bool.or_eq_true] at h
    cases i with
    | zero => simp at ho; subst ho; simpa using h.1.symm
    | succ i =>
      have := calmAtB_spec h.2 i o' (by simpa using ho)
      rwa [show k + (i + 1) = k + 1 + i by omega]

theorem calmGoB_spec {pres : List Nat} : ∀ {done rs : List Rec}, calmGoB pres done.length done rs = true →
    ∀ i r, rs[i]? = some r → calmAtB (pres.getD (done.length + i) 0) r 0 (done ++ rs.take i) = true
  | done, [], _, i, o', ho => by simp at ho
  | done, o1 :: os, h, i, o', ho => by
    simp only [calmGoB, Bool.and_eq_true] at h
    cases i with
    | zero => simp at ho; subst ho; simpa using h.1
    | succ i =>
      have := calmGoB_spec (done := done ++ [o1]) (rs := os) (by simpa using h.2) i o' (by simpa using ho)
      simpa [Nat.add_assoc, Nat.add_comm 1 i] using this

theorem noConf_of {ops : Array Oper} {o o' : Oper} {r r' : Rec} (h1 : o.apart ops o' = true) (h2 : noConfB r r' = true) : noConf ops o o' r r' = true := by
  unfold noConf noConfB at *
  rw [h1]
  split at h2
  · rename_i e1 e2; simp [e1, e2]
  · simpa [Bool.and_assoc] using h2

theorem noConf_spec {ops : Array Oper} {o o' : Oper} {r r' : Rec} (h : noConf ops o o' r r' = true) :
    o.apart ops o' = true ∧ (∀ b, b ∈ r.us.map (·.1) → b ∉ r'.rd ∧ b ∉ r'.us.map (·.1)) ∧ (∀ b, b ∈ r'.us.map (·.1) → b ∉ r.rd) := by
  simp only [noConf, Bool.and_eq_true, List.all_eq_true, Bool.not_eq_true'] at h
  obtain ⟨⟨h1, h2⟩, h3⟩ := h
  refine ⟨h1, fun b hb => ?_, fun b hb => ?_⟩
  · obtain ⟨p, hp, rfl⟩ := List.mem_map.1 hb
    obtain ⟨h4, h5⟩ := h2 p hp
    refine ⟨by simpa using h4, fun hx => ?_⟩
    obtain ⟨q, hq, he⟩ := List.mem_map.1 hx
    simp only [List.any_eq_false, beq_iff_eq] at h5
    exact h5 q hq he
  · obtain ⟨p, hp, rfl⟩ := List.mem_map.1 hb
    simpa using h3 p hp

theorem aEval_same {X : Env} {tm tm2 : List AV} {x : Operand} (h : ∀ k, x = .tmp k → tm2[k]? = tm[k]?) : aEval X tm2 x = aEval X tm x := by
  cases x with
  | tmp k => simp only [aEval, List.getD_eq_getElem?_getD, h k rfl]
  | _ => rfl

theorem aWanted_same {ops : Array Oper} {o : Oper} {tm tm2 : List AV} (h : ∀ k ∈ o.looksAt ops, tm2[k]? = tm[k]?) : aWanted ops tm2 o = aWanted ops tm o := by
  unfold aWanted
  cases hg : o.guard with
  | none => rfl
  | some p =>
    obtain ⟨j, want⟩ := p
    simp only
    have : yieldA ops tm2 j = yieldA ops tm j := by
      unfold yieldA
      cases hb : (ops[j]?).bind (·.dst) with
      | none => rfl
      | some t =>
        simp only
        rw [h t (by simp [Oper.looksAt, hg, hb])]
    rw [this]

theorem calm_any {X : Env} {ops : Array Oper} {tm0 L0 rs tm' L'} (h : Chain X ops ops.toList tm0 L0 rs tm' L') (hcalm : calm ops rs = true)
    {w0 g0 Lb ds} : ∀ (fuel : Nat) (listed : Array Bool) (a : Act) (w : World) (g : Gh) (D : Nat → Bool), listed.size = ops.size → (∀ i, D i = listed.getD i false) →
      Closed ops.toList D → ((List.range ops.size).filter fun i => !D i).length ≤ fuel →
      MA w0 g0 Lb w g (LAt rs D L0 ops.size) → GlOk X w g.st → TmOk w g (LAt rs D L0 ops.size) (tmAt ops.toList rs D tm0 ops.size) a.tmps → a.defers = ds →
      wpAny X.P .any ops (Post .normal tm' L' w0 g0 Lb ds) fuel listed a w := by
  have hlen : rs.length = ops.size := by simpa using h.len
  have hlast := h.last
  simp only [Array.length_toList] at hlast
  have done : ∀ (listed : Array Bool) (a : Act) (w : World) (g : Gh) (D : Nat → Bool), (∀ i, i < ops.size → D i = true) →
      MA w0 g0 Lb w g (LAt rs D L0 ops.size) → TmOk w g (LAt rs D L0 ops.size) (tmAt ops.toList rs D tm0 ops.size) a.tmps → a.defers = ds →
      Post .normal tm' L' w0 g0 Lb ds .normal a w := by
    intro listed a w g D hall hm ht hd
    rw [hlast.1, hlast.2]
    rw [LAt_same (D' := fun _ => true) ops.size hall] at hm ht
    rw [tmAt_same (D' := fun _ => true) ops.size hall] at ht
    exact ⟨rfl, hd, g, hm, ht⟩
  simp only [calm, Bool.and_eq_true, Bool.or_eq_true] at hcalm
  have cs : ∀ i o r, ops.toList[i]? = some o → rs[i]? = some r → backAt i o = true ∧
      ∀ j o' r', j < i → ops.toList[j]? = some o' → rs[j]? = some r' → ((presGo ops.toList []).getD i 0).testBit j = true ∨ noConf ops o' o r' r = true := by
    intro i o r ho hr
    have h1 := calmGoT_spec hcalm.1 i o ho
    simp only [Nat.zero_add] at h1
    refine ⟨h1.1, fun j o' r' hj ho' hr' => ?_⟩
    have h3 := calmAtT_spec h1.2 j o' (by rw [List.getElem?_take]; simp [hj, ho'])
    have h4 : ((presGo ops.toList []).getD i 0).testBit j = true ∨ noConfB r' r = true := by
      rcases hcalm.2 with ha | ha
      · right
        simp only [List.all_eq_true, List.isEmpty_iff] at ha
        simp [noConfB, ha r (List.mem_of_getElem? hr), ha r' (List.mem_of_getElem? hr')]
      · have h2 := calmGoB_spec (done := []) ha i r hr
        simp only [Nat.zero_add, List.length_nil, List.nil_append] at h2
        have h4 := calmAtB_spec h2 j r' (by rw [List.getElem?_take]; simp [hj, hr'])
        simp only [Nat.zero_add] at h4
        exact h4
    simp only [Nat.zero_add] at h3
    rcases h3 with h3 | h3
    · exact .inl h3
    · rcases h4 with h4 | h4
      · exact .inl h4
      · exact .inr (noConf_of h3 h4)
  have recAt : ∀ i, i < ops.size → ∃ o r, ops.toList[i]? = some o ∧ rs[i]? = some r ∧ ops[i]? = some o := fun i hi =>
    ⟨ops[i], rs[i], by simp [hi], by simp [hlen, hi], by simp [hi]⟩
  have readyAll : ∀ (listed : Array Bool) (D : Nat → Bool), listed.size = ops.size → (∀ i, D i = listed.getD i false) → Region.ready .any ops listed = [] → ∀ i, i < ops.size → D i = true := by
    intro listed D hs hD hr i
    induction i using Nat.strongRecOn with
    | _ i ih =>
      intro hi
      cases hdi : D i with
      | true => rfl
      | false =>
        exfalso
        obtain ⟨o, r, ho, hro, hoa⟩ := recAt i hi
        have : i ∈ Region.ready .any ops listed := by
          rw [mem_ready]
          refine ⟨?_, o, hoa, fun e he hb => ?_⟩
          · rw [hD] at hdi
            simpa [Array.getD, hs, hi] using hdi
          · have hback := (cs i o r ho hro).1
            simp only [backAt, List.all_eq_true, Bool.or_eq_true, Bool.not_eq_true', decide_eq_true_eq] at hback
            rcases hback e (by simpa using he) with hb' | hlt
            · rw [hb] at hb'; cases hb'
            · rw [← hD]; exact ih e.on hlt (by omega)
        rw [hr] at this
        cases this
  intro fuel
  induction fuel with
  | zero =>
    intro listed a w g D hs hD hc hf hm hg ht hd
    have hall : ∀ i, i < ops.size → D i = true := by
      intro i hi
      cases hdi : D i with
      | true => rfl
      | false =>
        have : i ∈ (List.range ops.size).filter fun i => !D i := by simp [hi, hdi]
        have := List.length_pos_of_mem this
        omega
    refine ⟨?_, done listed a w g D hall hm ht hd⟩
    apply List.eq_nil_iff_forall_not_mem.2
    intro i hi
    obtain ⟨h0, o, ho, _⟩ := mem_ready.1 hi
    have hlt : i < ops.size := (Array.getElem?_eq_some_iff.1 ho).1
    have := hall i hlt
    rw [hD] at this
    simp [Array.getD, hs, hlt] at this h0
    rw [this] at h0; cases h0
  | succ fuel ih =>
    intro listed a w g D hs hD hc hf hm hg ht hd
    refine ⟨fun hr => done listed a w g D (readyAll listed D hs hD hr) hm ht hd, fun j hj => ?_⟩
    obtain ⟨h0, o, hoa, hpre⟩ := mem_ready.1 hj
    have hlt : j < ops.size := (Array.getElem?_eq_some_iff.1 hoa).1
    have hDj : D j = false := by
      rw [hD]; simpa [Array.getD, hs, hlt] using h0
    obtain ⟨o', r, ho, hr, hoa'⟩ := recAt j hlt
    obtain rfl : o = o' := by rw [hoa] at hoa'; simpa using hoa'
    have hclo : Closed ops.toList (ins D j) := by
      intro i oi hoi hdi e he hb
      simp only [ins] at hdi ⊢
      by_cases hij : i = j
      · subst hij
        rw [ho] at hoi
        obtain rfl : o = oi := by simpa using hoi
        split
        · rfl
        · rw [hD]; exact hpre e (by simpa using he) hb
      · simp only [hij, if_false] at hdi
        split
        · rfl
        · exact hc i oi hoi hdi e he hb
    -- whoever stands elsewhere than the text says touches nothing of this operation
    have conf : ∀ i oi ri, i ≠ j → ops.toList[i]? = some oi → rs[i]? = some ri → D i ≠ decide (i < j) →
        (∀ k, oi.dst = some k → k ∉ o.looksAt ops) ∧ (∀ b, b ∈ ri.us.map (·.1) → b ∉ r.rd) ∧ (∀ k, o.dst = some k → oi.dst ≠ some k) ∧ (∀ b, b ∈ r.us.map (·.1) → b ∉ ri.us.map (·.1)) := by
      intro i oi ri hne hoi hri hdi
      rcases Nat.lt_or_gt_of_ne hne with hij | hij
      · have hd0 : D i = false := by
          cases hx : D i with
          | false => rfl
          | true => simp [hx, hij] at hdi
        rcases (cs j o r ho hr).2 i oi ri hij hoi hri with hb | hn
        · exfalso
          have := pres_ok hclo ops.toList [] (fun i => by simp) (fun j hj i hi => by simp at hi) j (by simp [ins]) i hb
          simp [ins, hne, hd0] at this
        · obtain ⟨ha, hu, hv⟩ := noConf_spec hn
          obtain ⟨a1, a2, a3⟩ := Oper.apart_spec ha
          exact ⟨a1, fun b hb => (hu b hb).1, fun k hk he => a2 k he hk, fun b hb hb' => (hu b hb').2 hb⟩
      · have hd1 : D i = true := by
          cases hx : D i with
          | true => rfl
          | false => simp [hx, show ¬ i < j by omega] at hdi
        rcases (cs i oi ri hoi hri).2 j o r hij ho hr with hb | hn
        · exfalso
          have := pres_ok hc ops.toList [] (fun i => by simp) (fun j hj i hi => by simp at hi) i hd1 j hb
          rw [hDj] at this; cases this
        · obtain ⟨ha, hu, hv⟩ := noConf_spec hn
          obtain ⟨a1, a2, a3⟩ := Oper.apart_spec ha
          exact ⟨a3, fun b hb => hv b hb, fun k hk he => a2 k hk he, fun b hb hb' => (hu b hb).2 hb'⟩
    have htxt := h.at j o r ho hr
    have tmText : tmAt ops.toList rs (fun _ => true) tm0 j = tmAt ops.toList rs (fun i => decide (i < j)) tm0 ops.size := by
      rw [tmAt_trim (j := j) ops.size (by omega) fun i h1 h2 => by simp; omega]
      exact tmAt_same j fun i hi => by simp [hi]
    have LText : LAt rs (fun _ => true) L0 j = LAt rs (fun i => decide (i < j)) L0 ops.size := by
      rw [LAt_trim (j := j) ops.size (by omega) fun i h1 h2 => by simp; omega]
      exact LAt_same j fun i hi => by simp [hi]
    rw [tmText, LText] at htxt
    have looks : ∀ k ∈ o.looksAt ops, (tmAt ops.toList rs D tm0 ops.size)[k]? = (tmAt ops.toList rs (fun i => decide (i < j)) tm0 ops.size)[k]? := by
      intro k hk
      refine tmAt_agree _ fun i oi hi hoi hne => ?_
      have hij : i ≠ j := fun e => by subst e; simp [hDj] at hne
      obtain ⟨_, ri, _, hri, _⟩ := recAt i hi
      intro hdst
      exact (conf i oi ri hij hoi hri hne).1 k hdst hk
    have blocks : ∀ b ∈ r.rd, LAt rs D L0 ops.size b = LAt rs (fun i => decide (i < j)) L0 ops.size b := by
      intro b hb
      refine LAt_agree _ fun i ri hi hri hne => ?_
      have hij : i ≠ j := fun e => by subst e; simp [hDj] at hne
      obtain ⟨oi, _, hoi, _, _⟩ := recAt i hi
      intro hx
      exact (conf i oi ri hij hoi hri hne).2.1 b hx hb
    have hops : ∀ x ∈ o.op.operands, aEval X (tmAt ops.toList rs D tm0 ops.size) x = aEval X (tmAt ops.toList rs (fun i => decide (i < j)) tm0 ops.size) x := by
      intro x hx
      refine aEval_same fun k hk => looks k ?_
      subst hk
      exact List.mem_append_left _ (List.mem_filterMap.2 ⟨.tmp k, by simpa using hx, rfl⟩)
    refine htxt.wp hops (aWanted_same looks) blocks hm.rel hg ht hoa fun v w' g' hm' ht' => ?_
    have hLi : upds (LAt rs D L0 ops.size) r.us = LAt rs (ins D j) L0 ops.size := by
      rw [LAt_ins hr hDj ops.size hlt fun i ri h1 h2 hri hdi b hb => ?_]
      obtain ⟨oi, _, hoi, _, _⟩ := recAt i h2
      exact (conf i oi ri (by omega) hoi hri (by simp [hdi]; omega)).2.2.2 b hb
    have hTi : putA (tmAt ops.toList rs D tm0 ops.size) o.dst r.y = tmAt ops.toList rs (ins D j) tm0 ops.size := by
      rw [tmAt_ins ho hr hDj ops.size hlt fun i oi h1 h2 hoi hdi k hk => ?_]
      obtain ⟨_, ri, _, hri, _⟩ := recAt i h2
      exact (conf i oi ri (by omega) hoi hri (by simp [hdi]; omega)).2.2.1 k hk
    rw [hLi] at hm' ht'
    rw [hTi] at ht'
    refine ih (listed.setIfInBounds j true) (a.put o.dst v) w' g' (ins D j) (by simpa using hs) (fun i => ?_) hclo ?_ (hm.then hm') (hg.keep hm'.ev.keep) ht' (by rw [put_defers]; exact hd)
    · simp only [ins]
      by_cases hij : i = j
      · subst hij; simp [hs, hlt]
      · simp only [hij, if_false, hD, Array.getD_eq_getD_getElem?]
        rw [Array.getElem?_setIfInBounds_ne (fun e => hij e.symm)]
    · have hmem : j ∈ (List.range ops.size).filter fun i => !D i := by simp [hlt, hDj]
      have hsub : ((List.range ops.size).filter fun i => !ins D j i) = ((List.range ops.size).filter fun i => !D i).filter (· != j) := by
        rw [List.filter_filter]
        apply List.filter_congr
        intro i _
        by_cases hij : i = j
        · subst hij; simp [ins]
        · simp [ins, hij]
      rw [hsub]
      have := List.length_filter_lt_length_iff_exists.2 (⟨j, hmem, by simp⟩ : ∃ x ∈ ((List.range ops.size).filter fun i => !D i), ¬ (x != j) = true)
      omega

theorem MA.drew {w g L} (h : Rel w g L) (n : Nat) : MA w g L { w with drawn := n } g L := by
  have r : Rel { w with drawn := n } g L := by
    refine ⟨fun b => ?_, h.inj, fun k j hs => h.stc k j hs⟩
    have := h.blk b
    refine BlkOk.stay this rfl ⟨⟨fun _ _ h => h, fun _ _ _ => rfl⟩, fun b => BlkLe.refl _ _⟩ rfl (fun _ _ _ _ => rfl) (fun _ _ _ _ _ h => h)
  exact ⟨r, ⟨⟨fun _ _ h => h, fun _ _ _ => rfl⟩, fun b => BlkLe.refl _ _⟩, ⟨rfl, rfl, rfl, Nat.le_refl _, fun _ _ _ => rfl⟩, fun b _ _ _ hl hm => .inl ⟨b, _, _, trivial, hl, hm⟩, fun _ _ h => .inl h⟩

/-- A drawn region. -/
theorem region_any {X : Env} (hX : EnvOk X) {id : Nat} {ops : Array Oper} {tm L rs tm' L'} (h : Chain X ops ops.toList tm L rs tm' L') (hc : calm ops rs = true) : CodeOk X (.region id ops true) tm L .normal tm' L' := by
  intro w g a r hg ht
  refine wp_region_any hX.mixed ?_
  have hm := MA.drew r (w.drawn + 1)
  have e1 : ∀ n, LAt rs (fun _ => false) L n = L := by intro n; induction n with | zero => rfl | succ n ih => simp only [LAt]; exact ih
  have e2 : ∀ n, tmAt ops.toList rs (fun _ => false) tm n = tm := by intro n; induction n with | zero => rfl | succ n ih => simp only [tmAt]; exact ih
  refine calm_any h hc ops.size (Array.replicate ops.size false) a _ g (fun _ => false) (by simp) (fun i => ?_) (fun _ _ _ h => by cases h) (Nat.le_trans (List.length_filter_le _ _) (by simp)) ?_ (hg.keep hm.ev.keep) ?_ rfl
  · simp [Array.getD_eq_getD_getElem?, Array.getElem?_replicate]; split <;> rfl
  · rw [e1]; exact hm
  · rw [e1, e2]; exact ht.ev hm.ev

end Go.Pl
