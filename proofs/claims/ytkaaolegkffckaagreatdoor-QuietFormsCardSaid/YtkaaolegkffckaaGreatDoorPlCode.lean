/- Code, and functions. -/
import Derived.Test.YtkaaolegkffckaaGreatDoorPlCall
set_option linter.unusedVariables false
set_option linter.unusedSimpArgs false
namespace Go.Pl

section
variable {X : Env} {tm tm1 tm2 : List AV} {L L1 L2 : Nat → Blk} {e : Exit} {x y c : Code}

theorem CodeOk.skip : CodeOk X .skip tm L .normal tm L := fun w g a r hg ht => wp_skip ⟨rfl, rfl, g, MA.refl r, ht⟩
theorem CodeOk.label {l : Nat} : CodeOk X (.label l) tm L .normal tm L := fun w g a r hg ht => wp_label ⟨rfl, rfl, g, MA.refl r, ht⟩
theorem CodeOk.exit {id : Nat} : CodeOk X (.exit id) tm L (.exit id) tm L := fun w g a r hg ht => wp_exit ⟨rfl, rfl, g, MA.refl r, ht⟩
theorem CodeOk.ret : CodeOk X .ret tm L .ret tm L := fun w g a r hg ht => wp_ret ⟨rfl, rfl, g, MA.refl r, ht⟩

theorem Post.then {w g w1 g1 : _} {ds : List Deferred} {a1 : Act} (hm : MA w g L w1 g1 L1) (hd : a1.defers = ds) {e' a' w'} (h : Post e tm2 L2 w1 g1 L1 a1.defers e' a' w') : Post e tm2 L2 w g L ds e' a' w' := by
  obtain ⟨rfl, h2, g', h3, h4⟩ := h
  exact ⟨rfl, h2.trans hd, g', hm.then h3, h4⟩

theorem CodeOk.seq (h : CodeOk X x tm L .normal tm1 L1) (k : CodeOk X y tm1 L1 e tm2 L2) : CodeOk X (.seq x y) tm L e tm2 L2 := by
  intro w g a r hg ht
  refine wp_seq (wp_mono (h w g a r hg ht) fun e' a' w' hp => ?_)
  obtain ⟨rfl, hd, g', hm, ht'⟩ := hp
  exact wp_mono (k w' g' a' hm.rel (hg.keep hm.ev.keep) ht') fun _ _ _ hq => hq.then hm hd

theorem CodeOk.seq_out (h : CodeOk X x tm L e tm1 L1) (he : e ≠ .normal) : CodeOk X (.seq x y) tm L e tm1 L1 := by
  intro w g a r hg ht
  refine wp_seq (wp_mono (h w g a r hg ht) fun e' a' w' hp => ?_)
  have : e' = e := hp.1
  cases e' with
  | normal => exact (he this.symm).elim
  | _ => exact hp

theorem CodeOk.cond {o : Operand} {b : Bool} (hc : aEval X tm o = .p (.v (.bool b))) (h : CodeOk X (if b then x else y) tm L e tm1 L1) : CodeOk X (.cond o x y) tm L e tm1 L1 := by
  intro w g a r hg ht
  have hv := eval_ok ht hg o
  rw [hc] at hv
  simp only [VA, VP] at hv
  exact wp_cond hv (h w g a r hg ht)

def blockE (id : Nat) : Exit → Exit
  | .exit id' => if id' = id then .normal else .exit id'
  | e => e

theorem CodeOk.block {id : Nat} (h : CodeOk X c tm L e tm1 L1) : CodeOk X (.block id c) tm L (blockE id e) tm1 L1 := by
  intro w g a r hg ht
  refine wp_block (wp_mono (h w g a r hg ht) fun e' a' w' hp => ?_)
  obtain ⟨rfl, hp⟩ := hp
  cases e' with
  | exit id' =>
    simp only [Exit.inBlock, blockE]
    split
    · exact ⟨rfl, hp⟩
    · exact ⟨rfl, hp⟩
  | _ => exact ⟨rfl, hp⟩

/-- The rounds of a loop. -/
inductive Rounds (X : Env) (c : Code) : List AV → (Nat → Blk) → Exit → List AV → (Nat → Blk) → Prop
  | out {tm : List AV} {L : Nat → Blk} {e : Exit} {tm1 : List AV} {L1 : Nat → Blk} : CodeOk X c tm L e tm1 L1 → e ≠ .normal → Rounds X c tm L e tm1 L1
  | more {tm : List AV} {L : Nat → Blk} {tm1 : List AV} {L1 : Nat → Blk} {e : Exit} {tm2 : List AV} {L2 : Nat → Blk} : CodeOk X c tm L .normal tm1 L1 → Rounds X c tm1 L1 e tm2 L2 → Rounds X c tm L e tm2 L2

theorem CodeOk.loop (h : Rounds X c tm L e tm1 L1) : CodeOk X (.loop c) tm L e tm1 L1 := by
  have key : ∀ (w : World) (g : Gh) (a : Act), Rel w g L → GlOk X w g.st → TmOk w g L tm a.tmps → ∀ (b : Frame) (k : List Item) (cs : List Frame),
      ∃ e' a' w', Post e tm1 L1 w g L a.defers e' a' w' ∧ Arrives X.P (lone (b.at a (.code c :: .inLoop c :: k)) cs w) b k cs e' a' w' := by
    induction h with
    | out h he =>
      intro w g a r hg ht b k cs
      obtain ⟨e', a', w', hp, harr⟩ := h w g a r hg ht b (.inLoop c :: k) cs
      refine ⟨e', a', w', hp, .pass (x := .inLoop c) rfl (fun _ _ => .inl (hp.1 ▸ he)) harr⟩
    | more h1 h2 ih =>
      intro w g a r hg ht b k cs
      obtain ⟨e', a', w', hp, harr⟩ := h1 w g a r hg ht b (.inLoop c :: k) cs
      obtain ⟨rfl, hd, g', hm, ht'⟩ := hp
      obtain ⟨e2, a2, w2, hp2, harr2⟩ := ih w' g' a' hm.rel (hg.keep hm.ev.keep) ht' b k cs
      exact ⟨e2, a2, w2, hp2.then hm hd, .of_steps (Steps.trans harr (.one step_inLoop)) harr2⟩
  intro w g a r hg ht b k cs
  obtain ⟨e', a', w', hp, harr⟩ := key w g a r hg ht b k cs
  exact ⟨e', a', w', hp, .of_steps (.one step_loop) harr⟩
end

/-- The results of a function. -/
def resA (X : Env) (tm : List AV) (L : Nat → Blk) : List ResultVar → Option (List AV)
  | [] => some []
  | .tmp t :: rs => match resA X tm L rs with
    | some vs => some (tm.getD t undefA :: vs)
    | none => none
  | .cell a t :: rs => match X.T t, resA X tm L rs with
    | some ti, some vs => (match readCells L ti.size (tm.getD a undefA) with
      | some cs => some (aMk ti cs :: vs)
      | none => none)
    | _, _ => none

def resF (a : Array Value) (x : ResultVar) : Go.Sem Value := match x with
  | .tmp t => pure (a.getD t undef)
  | .cell ad t => do loadVar t (← asAddr (a.getD ad undef))

theorem resA_ok {X : Env} (hX : EnvOk X) {w g L tm} {a : Array Value} (r : Rel w g L) (ht : TmOk w g L tm a) : ∀ {rs : List ResultVar} {ys : List AV}, resA X tm L rs = some ys →
    ∃ vs : List Value, (rs.mapM (resF a)).run X.P w = .ok vs w ∧ VAs w g L ys vs
  | [], ys, h => by simp [resA] at h; subst h; exact ⟨[], by simp, by simp only [VAs]⟩
  | .tmp t :: rs, ys, h => by
    simp only [resA] at h
    split at h
    · rename_i vs hvs
      simp at h; subst h
      obtain ⟨us, hu, hv⟩ := resA_ok hX r ht hvs
      refine ⟨a.getD t undef :: us, ?_, ?_⟩
      · rw [List.mapM_cons]; simp only [resF, Go.Sem.run_bind, Go.Sem.run_pure, Result.andThen, hu]
      · simp only [VAs]; exact ⟨_, _, rfl, getD_ok ht t, hv⟩
    · simp at h
  | .cell ad t :: rs, ys, h => by
    simp only [resA] at h
    split at h
    · rename_i ti vs hti hvs
      split at h
      · rename_i cs hcs
        simp at h; subst h
        obtain ⟨us, hu, hv⟩ := resA_ok hX r ht hvs
        obtain ⟨hl, k, o, uc, hptr, hul, hcell, hvc⟩ := readCells_ok r hcs (getD_ok ht ad)
        have hld := (hX.T t _ hti).load hul hcell
        refine ⟨mkV ti uc :: us, ?_, ?_⟩
        · rw [List.mapM_cons]; simp only [resF, hptr, asAddr, Go.Sem.run_bind, Go.Sem.run_pure, Result.andThen, hld, hu]
        · simp only [VAs]
          refine ⟨_, _, rfl, aMk_ok hvc (fun hag hnil => ?_), hv⟩
          have := (hX.T t _ hti).one hag
          rw [hnil] at hl
          simp at hl; omega
      · simp at h
    · simp at h

def packA : List AV → AV
  | [y] => y
  | ys => .tup ys

theorem results_ok {X : Env} (hX : EnvOk X) {w g L tm} {a : Array Value} (r : Rel w g L) (ht : TmOk w g L tm a) {fn : Func} {ys : List AV} (h : resA X tm L fn.results.toList = some ys) :
    ∃ vs : List Value, VAs w g L ys vs ∧ (results fn a).run X.P w = .ok (if h : vs.toArray.size = 1 then vs.toArray[0] else .tuple vs.toArray) w := by
  obtain ⟨vs, hv, hva⟩ := resA_ok hX r ht h
  refine ⟨vs, hva, ?_⟩
  have hfun : results fn a = (do let vs ← fn.results.mapM (resF a); pure (if h : vs.size = 1 then vs[0] else .tuple vs)) := by
    unfold results
    congr 1
  rw [hfun]
  rw [Array.mapM_eq_mapM_toList]
  simp only [Go.Sem.run_bind, Go.Sem.run_map]
  rw [hv]
  simp only [Result.andThen, Go.Sem.run_pure]

theorem packA_ok {w g L} {ys : List AV} {vs : List Value} (h : VAs w g L ys vs) : VA w g L (packA ys) (if h : vs.toArray.size = 1 then vs.toArray[0] else .tuple vs.toArray) := by
  cases ys with
  | nil => simp only [VAs] at h; subst h; simp [packA, VA, VAs]
  | cons y ys =>
    simp only [VAs] at h
    obtain ⟨u, us, rfl, h1, h2⟩ := h
    cases ys with
    | nil =>
      simp only [VAs] at h2; subst h2
      simpa [packA] using h1
    | cons z zs =>
      simp only [VAs] at h2
      obtain ⟨u2, us2, rfl, h3, h4⟩ := h2
      simp only [packA, VA]
      refine ⟨u :: u2 :: us2, by simp, ?_⟩
      simp only [VAs]
      exact ⟨_, _, rfl, h1, _, _, rfl, h3, h4⟩

/-- The blocks that a function leaves: some of its first, the others from a list of names. -/
def outB (L : Nat → Blk) (σl : List Nat) (base : Nat → Nat) (dead : Nat → Bool) : Nat → List Nat → Option (List Blk)
  | _, [] => some []
  | i, b :: bs => match outB L σl base dead (i + 1) bs with
    | some xs => if dead i then some (.dead :: xs) else (match viewB σl base i (L b) with
      | some x => some (x :: xs)
      | none => none)
    | none => none

theorem outB_get {L : Nat → Blk} {σl : List Nat} {base : Nat → Nat} {dead : Nat → Bool} : ∀ {k : Nat} {bs : List Nat} {xs : List Blk}, outB L σl base dead k bs = some xs →
    xs.length = bs.length ∧ ∀ (i : Nat) b, bs[i]? = some b → ∃ x, xs[i]? = some x ∧ ((dead (k + i) = true ∧ x = .dead) ∨ (dead (k + i) = false ∧ viewB σl base (k + i) (L b) = some x))
  | k, [], xs, h => by simp [outB] at h; subst h; simp
  | k, b :: bs, xs, h => by
    simp only [outB] at h
    split at h
    rotate_left
    · simp at h
    rename_i xs' h2
    obtain ⟨a1, a2⟩ := outB_get h2
    have step : ∀ (x : Blk), xs = x :: xs' → ((dead k = true ∧ x = .dead) ∨ (dead k = false ∧ viewB σl base k (L b) = some x)) →
        xs.length = (b :: bs).length ∧ ∀ (i : Nat) c, (b :: bs)[i]? = some c → ∃ x, xs[i]? = some x ∧ ((dead (k + i) = true ∧ x = .dead) ∨ (dead (k + i) = false ∧ viewB σl base (k + i) (L c) = some x)) := by
      rintro x rfl hx
      refine ⟨by simp [a1], fun i c hc => ?_⟩
      cases i with
      | zero => simp at hc; subst hc; exact ⟨x, rfl, hx⟩
      | succ i =>
        have := a2 i c (by simpa using hc)
        rwa [show k + 1 + i = k + (i + 1) by omega] at this
    split at h
    · rename_i hd
      simp at h
      exact step _ h.symm (.inl ⟨hd, rfl⟩)
    · rename_i hd
      split at h
      · rename_i x hx
        simp at h
        exact step _ h.symm (.inr ⟨by simpa using hd, hx⟩)
      · simp at h

def upTo (k : Nat) (dead : Nat → Bool) : List Nat → Nat → Bool
  | [], i => decide (k ≤ i)
  | b :: bs, i => (decide (k ≤ i) || dead i || b == i) && upTo k dead bs (i + 1)

theorem upTo_get {k : Nat} {dead : Nat → Bool} : ∀ {l : List Nat} {i : Nat}, upTo k dead l i = true → k ≤ i + l.length ∧ ∀ j, i + j < k → dead (i + j) = false → l[j]? = some (i + j)
  | [], i, h => by simp [upTo] at h; exact ⟨by simpa using h, fun j hj => by omega⟩
  | b :: bs, i, h => by
    simp only [upTo, Bool.and_eq_true, Bool.or_eq_true, decide_eq_true_eq, beq_iff_eq] at h
    obtain ⟨h1, h2⟩ := upTo_get h.2
    refine ⟨by simp; omega, fun j hj hd => ?_⟩
    cases j with
    | zero =>
      rcases h.1 with (h0 | h0) | h0
      · omega
      · rw [Nat.add_zero] at hd; rw [hd] at h0; cases h0
      · simp; omega
    | succ j => have := h2 j (by omega) (by rw [show i + 1 + j = i + (j + 1) by omega]; exact hd); rw [List.getElem?_cons_succ, this]; congr 1; omega

/-- The names of a function's first blocks are one another's; of the others each is named once. -/
def nodupD (dead : Nat → Bool) : Nat → List Nat → Bool
  | _, [] => true
  | i, b :: bs => (dead i || !((List.range bs.length).any fun j => !dead (i + 1 + j) && bs.getD j 0 == b)) && nodupD dead (i + 1) bs

theorem nodupD_inj {dead : Nat → Bool} : ∀ {l : List Nat} {k : Nat}, nodupD dead k l = true → ∀ (i j b : Nat), l[i]? = some b → l[j]? = some b → dead (k + i) = false → dead (k + j) = false → i = j
  | [], _, _, i, j, b, h, _, _, _ => by simp at h
  | x :: xs, k, hn, i, j, b, hi, hj, di, dj => by
    simp only [nodupD, Bool.and_eq_true, Bool.or_eq_true, Bool.not_eq_true', List.any_eq_false, List.mem_range, Bool.and_eq_true, beq_iff_eq, not_and] at hn
    have main : ∀ j b, (x :: xs)[0]? = some b → xs[j]? = some b → dead (k + 0) = false → dead (k + (j + 1)) = false → False := by
      intro j b hi hj di dj
      simp at hi; subst hi
      have hlt := (List.getElem?_eq_some_iff.1 hj).1
      rcases hn.1 with h | h
      · rw [Nat.add_zero] at di; rw [di] at h; cases h
      · refine h j hlt (by rw [show k + 1 + j = k + (j + 1) by omega]; exact dj) ?_
        simp [List.getD_eq_getElem?_getD, hj]
    cases i with
    | zero =>
      cases j with
      | zero => rfl
      | succ j => exact (main j b hi (by simpa using hj) di dj).elim
    | succ i =>
      cases j with
      | zero => exact (main i b hj (by simpa using hi) dj di).elim
      | succ j =>
        rw [nodupD_inj hn.2 i j b (by simpa using hi) (by simpa using hj) (by rwa [show k + 1 + i = k + (i + 1) by omega]) (by rwa [show k + 1 + j = k + (j + 1) by omega])]

def exitOut (L : Nat → Blk) (k : Nat) (ms : List Bool) (σl : List Nat) (dead : Nat → Bool) (rs : List AV) : Option (AV × List Blk) :=
  match settleArgs L ms rs with
  | some (xs, fr) =>
    let base := fun i => if i < k then 0 else baseOf (upds L fr) σl i
    if nodupD dead 0 σl = true ∧ upTo k dead σl 0 = true ∧ ((List.range σl.length).all fun i => !dead i || decide (i < k)) = true then (match unrens σl base xs, outB (upds L fr) σl base dead 0 σl with
      | some ys, some S1 => some (packA ys, S1)
      | _, _ => none) else none
  | none => none

/-- A function, from its code. -/
theorem Sem.of_code {X : Env} (hX : EnvOk X) {f : FuncId} {fn : Func} {c : Code} {args : List AV} {S0 S1 : List Blk} {e : Exit} {tm' : List AV} {L' : Nat → Blk} {ms : List Bool} {σl : List Nat} {dead : Nat → Bool} {rs : List AV} {r : AV}
    (hf : X.P.funcs[f]? = some fn) (hname : (fn.name == "runtime.NumGoroutine") = false) (hb : fn.body = some c)
    (hc : CodeOk X c (args ++ List.replicate (fn.ntmps - args.length) undefA) (fnS S0) e tm' L') (he : e = .normal ∨ e = .ret)
    (hr : resA X tm' L' fn.results.toList = some rs) (ho : exitOut L' S0.length ms σl dead rs = some (r, S1)) : Sem X f args S0 r S1 := by
  unfold exitOut at ho
  split at ho
  rotate_left
  · simp at ho
  rename_i xs fr hset
  simp only at ho
  split at ho
  rotate_left
  · simp at ho
  rename_i hcond
  obtain ⟨hnd, hup, hdk⟩ := hcond
  split at ho
  rotate_left
  · simp at ho
  rename_i ys S1' hun hob
  simp only [Option.some.injEq, Prod.mk.injEq] at ho
  obtain ⟨rfl, rfl⟩ := ho
  obtain ⟨hl1, hget⟩ := outB_get hob
  obtain ⟨hk, hpre⟩ := upTo_get hup
  simp only [Nat.zero_add] at hk hpre hget
  refine ⟨⟨fn, hf, hname, by simp [hb]⟩, by omega, fun w g vs rel hg hv => ?_⟩
  have hvl : vs.length = args.length := VAs_len hv
  refine calls_of_wp hf hb (wp_mono (hc w g _ rel hg ?_) fun e' a' w' hp => ?_)
  · unfold TmOk
    simp only [Array.toList_append, Array.toList_replicate, List.size_toArray, hvl]
    have hrep : ∀ n, VAs w g (fnS S0) (List.replicate n undefA) (List.replicate n undef) := by
      intro n
      induction n with
      | zero => simp only [List.replicate_zero, VAs]
      | succ n ih => simp only [List.replicate_succ, VAs]; exact ⟨_, _, rfl, undef_ok, ih⟩
    have happ : ∀ {xs : List AV} {us : List Value} {ys : List AV} {zs : List Value}, VAs w g (fnS S0) xs us → VAs w g (fnS S0) ys zs → VAs w g (fnS S0) (xs ++ ys) (us ++ zs) := by
      intro xs
      induction xs with
      | nil => intro us ys zs h1 h2; simp only [VAs] at h1; subst h1; exact h2
      | cons x xs ih => intro us ys zs h1 h2; simp only [VAs] at h1; obtain ⟨u, us', rfl, h3, h4⟩ := h1; simp only [List.cons_append, VAs]; exact ⟨u, _, rfl, h3, ih h4 h2⟩
    exact happ hv (hrep _)
  · obtain ⟨rfl, hd, g', hm, ht'⟩ := hp
    obtain ⟨us, hus, hrun⟩ := results_ok hX hm.rel ht' hr
    obtain ⟨g1, hg1, hm1, hargs1⟩ := settleArgs_ok hm.rel hset
    have hus1 := hargs1 _ hus
    obtain ⟨hren, hbel⟩ := unrens_ok (nx := 0) _ hun
    rw [← hren] at hus1
    have hall := hm.then hm1.all
    have hvd : ViewD (sg σl 0) (fun i => if i < S0.length then 0 else baseOf (upds L' fr) σl i) σl.length (fnS S1') (upds L' fr) := by
      refine ⟨fun i hi => ?_, fun i hi => fnS_none (by omega), fun i j hi hj e => ?_⟩
      · have hb : σl[i]? = some σl[i] := by simp [hi]
        obtain ⟨x, hx, hcase⟩ := hget i _ hb
        rw [fnS_get hx]
        rcases hcase with ⟨_, rfl⟩ | ⟨_, hv⟩
        · exact .inl rfl
        · right
          have hs : sg σl 0 i = σl[i] := by simp [sg, hb]
          rw [hs]
          exact (viewB_ok hv).1
      · have hlt : ∀ i, Live (fnS S1' i) → i < σl.length := fun i hi => by
          rcases Nat.lt_or_ge i σl.length with h' | h'
          · exact h'
          · rw [fnS_none (by omega)] at hi; exact hi.elim
        have hdl : ∀ i, (h : i < σl.length) → Live (fnS S1' i) → dead i = false := fun i h hl => by
          obtain ⟨x, hx, hcase⟩ := hget i _ (by simp [h] : σl[i]? = some σl[i])
          rw [fnS_get hx] at hl
          rcases hcase with ⟨_, rfl⟩ | ⟨hd, _⟩
          · exact hl.elim
          · exact hd
        have h1 := hlt i hi
        have h2 := hlt j hj
        have e1 : sg σl 0 i = σl[i] := by simp [sg, h1]
        have e2 : sg σl 0 j = σl[j] := by simp [sg, h2]
        rw [e1, e2] at e
        exact nodupD_inj hnd i j σl[i] (by simp [h1]) (by simp [h2, e]) (by simpa using hdl i h1 hi) (by simpa using hdl j h2 hj)
    have hbox : ∀ i, i < σl.length → boxBelow σl.length (fnS S1' i) = true := fun i hi => by
      obtain ⟨x, hx, hcase⟩ := hget i _ (by simp [hi] : σl[i]? = some σl[i])
      rw [fnS_get hx]
      rcases hcase with ⟨_, rfl⟩ | ⟨_, hv⟩
      · rfl
      · exact (viewB_ok (nx := 0) hv).2
    have hres := VAs_down (gv := ghV g1 (sg σl 0)) hvd (fun _ _ => rfl) rfl _ _ hbel hus1
    have hid : ∀ i, i < S0.length → fnS S1' i = .dead ∨ (sg σl 0 i = i ∧ (if i < S0.length then 0 else baseOf (upds L' fr) σl i) = 0) := fun i hi => by
      cases hd : dead i with
      | true =>
        left
        have hi2 : i < σl.length := by omega
        obtain ⟨x, hx, hcase⟩ := hget i _ (by simp [hi2] : σl[i]? = some σl[i])
        rw [fnS_get hx]
        rcases hcase with ⟨_, rfl⟩ | ⟨hd2, _⟩
        · rfl
        · rw [hd] at hd2; cases hd2
      | false => exact .inr ⟨by simp [sg, hpre i hi hd], by simp [hi]⟩
    have hex := MA.exit hall (fun i hi => fnS_none hi) hvd (by omega) hid hbox
    have hfin : a'.defers = [] ∧ ∃ v, (results fn a'.tmps).run X.P w' = .ok v w' ∧ ∃ v_1, Ending.returned v = Ending.returned v_1 ∧ ∃ g', MA w g (fnS S0) w' g' (fnS S1') ∧ VA w' g' (fnS S1') (packA ys) v_1 :=
      ⟨hd, _, hrun, _, rfl, _, hex, packA_ok hres⟩
    rcases he with rfl | rfl
    · exact hfin
    · exact hfin

end Go.Pl
