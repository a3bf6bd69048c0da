/- The plain machine runs. -/
import Derived.Test.YtkaaolegkffckaaGreatDoorPlCode
import Derived.Test.YtkaaolegkffckaaGreatDoorPlFlat
import Derived.Test.YtkaaolegkffckaaGreatDoorPlForce
import Derived.Test.YtkaaolegkffckaaGreatDoorPlFast
set_option linter.unusedVariables false
set_option linter.unusedSimpArgs false
namespace Go.Pl

def setB (S : List Blk) (b : Nat) (x : Blk) : List Blk :=
  if b < S.length then S.set b x else S ++ List.replicate (b - S.length) .none ++ [x]

theorem fnS_setB (S : List Blk) (b : Nat) (x : Blk) : fnS (setB S b x) = upd (fnS S) b x := by
  funext i
  unfold setB fnS upd
  simp only [List.getD_eq_getElem?_getD]
  split
  · rename_i h
    by_cases hi : i = b
    · subst hi; simp [h]
    · rw [List.getElem?_set_ne (Ne.symm hi)]; simp [hi]
  · rename_i h
    by_cases hi : i = b
    · subst hi
      simp only [if_true]
      rw [List.getElem?_append_right (by simp; omega)]
      simp only [List.length_append, List.length_replicate]
      rw [show i - (S.length + (i - S.length)) = 0 by omega]
      simp
    · simp only [hi, if_false]
      rcases Nat.lt_or_ge i S.length with h1 | h1
      · rw [List.append_assoc, List.getElem?_append_left h1]
      · rw [List.getElem?_eq_none h1]
        rcases Nat.lt_or_ge i b with h2 | h2
        · rw [List.getElem?_append_left (by simp; omega), List.getElem?_append_right h1, List.getElem?_replicate, if_pos (by omega)]
          simp
        · rw [List.getElem?_eq_none (by simp; omega)]

def updS (S : List Blk) : List (Nat × Blk) → List Blk
  | [] => S
  | (b, x) :: us => updS (setB S b x) us

theorem fnS_updS : ∀ (us : List (Nat × Blk)) (S : List Blk), fnS (updS S us) = upds (fnS S) us
  | [], S => rfl
  | (b, x) :: us, S => by simp only [updS, upds, fnS_updS us, fnS_setB]

def nmsss : List (List AV) → List Nat
  | [] => []
  | e :: es => nmss e ++ nmsss es

/-- The names that values lead to, each once. -/
def reachN (L : Nat → Blk) : Nat → List Nat → List Nat → List Nat
  | 0, _, seen => seen
  | _ + 1, [], seen => seen
  | n + 1, b :: bs, seen => if seen.contains b then reachN L n bs seen else
    match L b with
    | .box cells => reachN L n (bs ++ nmss cells) (seen ++ [b])
    | .arr _ _ _ els => reachN L n (bs ++ nmsss els) (seen ++ [b])
    | _ => reachN L n bs (seen ++ [b])

abbrev Orc := FuncId → List AV → List Blk → Option (AV × List Blk)
def OrcOk (X : Env) (F : Orc) : Prop := ∀ f args S0 r S1, F f args S0 = some (r, S1) → Sem X f args S0 r S1

def callRec (L : Nat → Blk) (nx : Nat) (fr : Us) (σl : List Nat) (av : List AV) (r : AV) (S1 : List Blk) : Rec :=
  ⟨callY L fr σl nx r, callUs L fr σl nx S1, fr.map (·.1) ++ σl ++ (List.range (S1.length - σl.length)).map (nx + ·)⟩

def pureRec (nx : Nat) (fr : Us) (av : List AV) (r : AV) (S1 : List Blk) : Rec :=
  ⟨pureY nx r, pureUs nx S1, fr.map (·.1) ++ (List.range S1.length).map (nx + ·)⟩

def mkRec (L : Nat → Blk) (nx : Nat) (fr : Us) (σl : List Nat) (av : List AV) (r : AV) (S1 : List Blk) : Rec :=
  if σl.isEmpty && flatA r && S1.all flatB then pureRec nx fr av r S1 else callRec L nx fr σl av r S1

/-- What a call does, where its callee is told by `F`. -/
def evCall (F : Orc) (X : Env) (md : FuncId → List Bool) (tm : List AV) (S : List Blk) (fx : Operand) (args : Array Operand) : Option Rec :=
  match aEval X tm fx with
  | .clo f caps => match settleArgs (fnS S) (md f) (args.toList.map (aEval X tm)) with
    | some (xs, _) => match callIn (fnS S) S.length (md f) (reachN (fnS S) 1000 (nmss (xs ++ caps)) []) (args.toList.map (aEval X tm)) caps with
      | some (ys, S0, fr) => match F f ys S0 with
        | some (r, S1) => some (mkRec (fnS S) S.length fr (reachN (fnS S) 1000 (nmss (xs ++ caps)) []) (args.toList.map (aEval X tm)) r S1)
        | none => none
      | none => none
    | none => none
  | _ => none

def callOf : Op → Option (Operand × Array Operand)
  | .call ⟨.value fx, args, _⟩ => some (fx, args)
  | _ => none

theorem callOf_ok {op : Op} {fx : Operand} {args : Array Operand} (h : callOf op = some (fx, args)) : ∃ tys, op = .call ⟨.value fx, args, tys⟩ := by
  unfold callOf at h
  split at h
  · rename_i tys
    simp at h; obtain ⟨rfl, rfl⟩ := h
    exact ⟨_, rfl⟩
  · simp at h

def plainRec (X : Env) (tm : List AV) (S : List Blk) (op : Op) : Option (AV × Us) → Option Rec
  | some (y, us) => some ⟨y, us, opReads X tm op ++ us.map (·.1)⟩
  | none => none

def evOp1 (F : Orc) (X : Env) (md : FuncId → List Bool) (tm : List AV) (S : List Blk) (op : Op) : Option (Operand × Array Operand) → Option Rec
  | some (fx, args) => evCall F X md tm S fx args
  | none => plainRec X tm S op (aop2 X tm (fnS S) S.length op)

def evOp (F : Orc) (X : Env) (md : FuncId → List Bool) (ops : Array Oper) (tm : List AV) (S : List Blk) (o : Oper) : Option Rec :=
  match aWanted ops tm o with
  | none => none
  | some false => some ⟨undefA, [], []⟩
  | some true => evOp1 F X md tm S o.op (callOf o.op)

theorem rec_plain {X : Env} (hX : EnvOk X) {ops : Array Oper} {tm : List AV} {L : Nat → Blk} {nx : Nat} (hnx : L nx = .none) {o : Oper} {y : AV} {us : Us} (hw : aWanted ops tm o = some true)
    (h : aop X tm L nx o.op = some (y, us)) : RecOk X ops o tm L ⟨y, us, opReads X tm o.op ++ us.map (·.1)⟩ := by
  refine .inl ⟨hw, fun tm2 L2 he hb => ?_⟩
  simp only at hb ⊢
  have h2 : aop X tm2 L2 nx o.op = some (y, us) :=
    aop_congr h (fun x hx => (he x hx).symm) (fun b hb' => (hb b (by simp [hb'])).symm) fun q hq => (hb q.1 (by
      simp only [List.mem_append]; exact .inr (List.mem_map.2 ⟨q, hq, rfl⟩))).symm
  refine OpOk.of_step fun w g a r hg ht => aop_ok hX r ht hg (fun hn => ?_) h2
  rw [hb nx (by simp only [List.mem_append]; exact .inr hn)]
  exact hnx

theorem rec_call {X : Env} {ops : Array Oper} {o : Oper} {fx : Operand} {args : Array Operand} {tys : Array TypeId} {tm : List AV} {L : Nat → Blk} {nx : Nat} {ms : List Bool} {σl : List Nat} {f : FuncId} {caps ys : List AV} {S0 S1 : List Blk} {fr : Us} {r : AV}
    (hw : aWanted ops tm o = some true) (ho : o.op = .call ⟨.value fx, args, tys⟩) (hf : aEval X tm fx = .clo f caps) (hin : callIn L nx ms σl (args.toList.map (aEval X tm)) caps = some (ys, S0, fr))
    (hnew : ∀ b, nx ≤ b → L b = .none) (hs : Sem X f ys S0 r S1) : RecOk X ops o tm L (callRec L nx fr σl (args.toList.map (aEval X tm)) r S1) := by
  refine .inl ⟨hw, fun tm2 L2 he hb => ?_⟩
  simp only [callRec] at hb ⊢
  have hargs : args.toList.map (aEval X tm2) = args.toList.map (aEval X tm) := List.map_congr_left fun x hx => he x (by simp [ho, Op.operands, Call.operands]; exact .inr (by simpa using hx))
  have hf2 : aEval X tm2 fx = .clo f caps := by rw [he fx (by simp [ho, Op.operands, Call.operands])]; exact hf
  have hfr : ∀ q ∈ fr, L q.1 = L2 q.1 := fun q hq => (hb q.1 (by simp only [List.mem_append]; exact .inl (.inl (List.mem_map.2 ⟨q, hq, rfl⟩)))).symm
  have hsig : ∀ b ∈ σl, L b = L2 b := fun b hb' => (hb b (by simp [hb'])).symm
  have hin2 : callIn L2 nx ms σl (args.toList.map (aEval X tm2)) caps = some (ys, S0, fr) := by
    rw [hargs]; exact callIn_congr hin hfr hsig
  have hbase : baseOf (upds L2 fr) σl = baseOf (upds L fr) σl := baseOf_congr fun b hb' => (upds_agree fr (hsig b hb')).symm
  have hnew2 : ∀ b, nx ≤ b → b < nx + (S1.length - σl.length) → L2 b = .none := fun b h1 h2 => by
    rw [hb b (by simp only [List.mem_append, List.mem_map, List.mem_range]; exact .inr ⟨b - nx, by omega, by omega⟩)]
    exact hnew b h1
  have := call_op ho hf2 hin2 hnew2 hs
  have e1 : callY L2 fr σl nx r = callY L fr σl nx r := by unfold callY; rw [hbase]
  have e2 : callUs L2 fr σl nx S1 = callUs L fr σl nx S1 := by unfold callUs; rw [hbase]
  rw [e1, e2] at this
  exact this

theorem rec_pure {X : Env} {ops : Array Oper} {o : Oper} {fx : Operand} {args : Array Operand} {tys : Array TypeId} {tm : List AV} {L : Nat → Blk} {nx : Nat} {ms : List Bool} {f : FuncId} {caps ys : List AV} {S1 : List Blk} {fr : Us} {r : AV}
    (hw : aWanted ops tm o = some true) (ho : o.op = .call ⟨.value fx, args, tys⟩) (hf : aEval X tm fx = .clo f caps) (hin : callIn L nx ms [] (args.toList.map (aEval X tm)) caps = some (ys, [], fr))
    (hnew : ∀ b, nx ≤ b → L b = .none) (hs : Sem X f ys [] r S1) (hr : flatA r = true) (hS : S1.all flatB = true) : RecOk X ops o tm L (pureRec nx fr (args.toList.map (aEval X tm)) r S1) := by
  refine .inl ⟨hw, fun tm2 L2 he hb => ?_⟩
  simp only [pureRec] at hb ⊢
  have hargs : args.toList.map (aEval X tm2) = args.toList.map (aEval X tm) := List.map_congr_left fun x hx => he x (by simp [ho, Op.operands, Call.operands]; exact .inr (by simpa using hx))
  have hf2 : aEval X tm2 fx = .clo f caps := by rw [he fx (by simp [ho, Op.operands, Call.operands])]; exact hf
  have hfr : ∀ q ∈ fr, L q.1 = L2 q.1 := fun q hq => (hb q.1 (by simp only [List.mem_append]; exact .inl (List.mem_map.2 ⟨q, hq, rfl⟩))).symm
  have hin2 : callIn L2 nx ms [] (args.toList.map (aEval X tm2)) caps = some (ys, [], fr) := by
    rw [hargs]; exact callIn_congr hin hfr fun b hb' => by simp at hb'
  have hnew2 : ∀ b, nx ≤ b → b < nx + S1.length → L2 b = .none := fun b h1 h2 => by
    rw [hb b (by simp only [List.mem_append, List.mem_map, List.mem_range]; exact .inr ⟨b - nx, by omega, by omega⟩)]
    exact hnew b h1
  exact call_pure ho hf2 hin2 hnew2 hs hr hS

theorem callIn_nil {L : Nat → Blk} {nx : Nat} {ms : List Bool} {args caps ys : List AV} {S0 : List Blk} {fr : Us} (h : callIn L nx ms [] args caps = some (ys, S0, fr)) : S0 = [] := by
  unfold callIn at h
  split at h
  · split at h
    · split at h
      · rename_i h1 h2
        simp only [Option.some.injEq, Prod.mk.injEq] at h
        obtain ⟨_, rfl, _⟩ := h
        simpa [views] using h2.symm
      · simp at h
    · simp at h
  · simp at h

theorem rec_mk {X : Env} {ops : Array Oper} {o : Oper} {fx : Operand} {args : Array Operand} {tys : Array TypeId} {tm : List AV} {L : Nat → Blk} {nx : Nat} {ms : List Bool} {σl : List Nat} {f : FuncId} {caps ys : List AV} {S0 S1 : List Blk} {fr : Us} {r : AV}
    (hw : aWanted ops tm o = some true) (ho : o.op = .call ⟨.value fx, args, tys⟩) (hf : aEval X tm fx = .clo f caps) (hin : callIn L nx ms σl (args.toList.map (aEval X tm)) caps = some (ys, S0, fr))
    (hnew : ∀ b, nx ≤ b → L b = .none) (hs : Sem X f ys S0 r S1) : RecOk X ops o tm L (mkRec L nx fr σl (args.toList.map (aEval X tm)) r S1) := by
  unfold mkRec
  split
  · rename_i h
    simp only [Bool.and_eq_true, List.isEmpty_iff] at h
    obtain ⟨⟨rfl, h2⟩, h3⟩ := h
    obtain rfl := callIn_nil hin
    exact rec_pure hw ho hf hin hnew hs h2 h3
  · exact rec_call hw ho hf hin hnew hs

theorem evOp_ok {F : Orc} {X : Env} (hX : EnvOk X) (hF : OrcOk X F) {md : FuncId → List Bool} {ops : Array Oper} {tm : List AV} {S : List Blk} {o : Oper} {r : Rec} (h : evOp F X md ops tm S o = some r) : RecOk X ops o tm (fnS S) r := by
  have hnone : ∀ b, S.length ≤ b → fnS S b = .none := fun b hb => fnS_none hb
  unfold evOp at h
  split at h
  · simp at h
  · rename_i hw
    simp only [Option.some.injEq] at h; subst h
    exact .inr ⟨hw, rfl, rfl⟩
  · rename_i hw
    cases hc : callOf o.op with
    | some p =>
      obtain ⟨fx, args⟩ := p
      obtain ⟨tys, ho⟩ := callOf_ok hc
      simp only [hc, evOp1] at h
      unfold evCall at h
      split at h
      · rename_i f caps hf
        split at h
        · rename_i xs fr0 hset
          split at h
          · rename_i ys S0 fr hin
            split at h
            · rename_i r1 S1 hr
              simp only [Option.some.injEq] at h; subst h
              exact rec_mk hw ho hf hin hnone (hF _ _ _ _ _ hr)
            · simp at h
          · simp at h
        · simp at h
      · simp at h
    | none =>
      simp only [hc, evOp1, aop2_eq] at h
      unfold plainRec at h
      split at h
      · rename_i y us ha
        simp only [Option.some.injEq] at h; subst h
        exact rec_plain hX (hnone _ (Nat.le_refl _)) hw ha
      · simp at h

def evOps (F : Orc) (X : Env) (md : FuncId → List Bool) (ops : Array Oper) : List Oper → List AV → List Blk → Option (List Rec × List AV × List Blk)
  | [], tm, S => some ([], tm, S)
  | o :: os, tm, S => match evOp F X md ops tm S o with
    | some r => match evOps F X md ops os (putA tm o.dst r.y) (updS S r.us) with
      | some (rs, tm', S') => some (r :: rs, tm', S')
      | none => none
    | none => none

theorem evOps_ok {F : Orc} {X : Env} (hX : EnvOk X) (hF : OrcOk X F) {md : FuncId → List Bool} {ops : Array Oper} : ∀ {os : List Oper} {tm : List AV} {S : List Blk} {rs tm' S'},
    evOps F X md ops os tm S = some (rs, tm', S') → Chain X ops os tm (fnS S) rs tm' (fnS S')
  | [], tm, S, rs, tm', S', h => by simp [evOps] at h; obtain ⟨rfl, rfl, rfl⟩ := h; exact .nil
  | o :: os, tm, S, rs, tm', S', h => by
    simp only [evOps] at h
    split at h
    · rename_i r hr
      split at h
      · rename_i rs2 tm2 S2 h2
        simp only [Option.some.injEq, Prod.mk.injEq] at h
        obtain ⟨rfl, rfl, rfl⟩ := h
        have := evOps_ok hX hF h2
        rw [fnS_updS] at this
        exact .cons (evOp_ok hX hF hr) this
      · simp at h
    · simp at h

abbrev St := List AV × List Blk

/-- Code; the number bounds the depth and the rounds. -/
def evCode (F : Orc) (X : Env) (md : FuncId → List Bool) : Nat → Code → St → Option (Exit × St)
  | 0, _, _ => none
  | n + 1, c, (tm, S) => match c with
    | .skip | .label _ => some (.normal, tm, S)
    | .exit id => some (.exit id, tm, S)
    | .ret => some (.ret, tm, S)
    | .region _ ops draw => match evOps F X md ops ops.toList tm S with
      | some (rs, tm', S') => if (!draw || calm ops rs) = true then forceAs tm' fun tm' => forceBs S' fun S' => some (.normal, tm', S') else none
      | none => none
    | .seq x y => match evCode F X md n x (tm, S) with
      | some (.normal, st) => evCode F X md n y st
      | r => r
    | .cond o x y => match aEval X tm o with
      | .p (.v (.bool b)) => evCode F X md n (if b then x else y) (tm, S)
      | _ => none
    | .block id c => match evCode F X md n c (tm, S) with
      | some (e, st) => some (blockE id e, st)
      | none => none
    | .loop c => match evCode F X md n c (tm, S) with
      | some (.normal, st) => evCode F X md n (.loop c) st
      | r => r
    | _ => none

theorem loop_more {X : Env} {c : Code} {tm tm1 tm2 : List AV} {L L1 L2 : Nat → Blk} {e : Exit} (h1 : CodeOk X c tm L .normal tm1 L1) (h2 : CodeOk X (.loop c) tm1 L1 e tm2 L2) (h3 : Rounds X c tm1 L1 e tm2 L2) : Rounds X c tm L e tm2 L2 := .more h1 h3

theorem evCode_ok {F : Orc} {X : Env} (hX : EnvOk X) (hF : OrcOk X F) {md : FuncId → List Bool} : ∀ {n : Nat} {c : Code} {tm : List AV} {S : List Blk} {e tm' S'},
    evCode F X md n c (tm, S) = some (e, tm', S') → CodeOk X c tm (fnS S) e tm' (fnS S') ∧ ∀ b, c = .loop b → Rounds X b tm (fnS S) e tm' (fnS S')
  | 0, c, tm, S, e, tm', S', h => by simp [evCode] at h
  | n + 1, c, tm, S, e, tm', S', h => by
    cases c with
    | skip => simp [evCode] at h; obtain ⟨rfl, rfl, rfl⟩ := h; exact ⟨.skip, fun _ h => by cases h⟩
    | label => simp [evCode] at h; obtain ⟨rfl, rfl, rfl⟩ := h; exact ⟨.label, fun _ h => by cases h⟩
    | exit => simp [evCode] at h; obtain ⟨rfl, rfl, rfl⟩ := h; exact ⟨.exit, fun _ h => by cases h⟩
    | ret => simp [evCode] at h; obtain ⟨rfl, rfl, rfl⟩ := h; exact ⟨.ret, fun _ h => by cases h⟩
    | region id ops draw =>
      simp only [evCode] at h
      split at h
      · rename_i rs tm1 S1 h1
        have hch := evOps_ok hX hF h1
        split at h
        · rename_i hc
          simp only [forceAs_eq, forceBs_eq, Option.some.injEq, Prod.mk.injEq] at h
          obtain ⟨rfl, rfl, rfl⟩ := h
          cases draw with
          | false => exact ⟨region_text hch, fun _ h => by cases h⟩
          | true => exact ⟨region_any hX hch (by simpa using hc), fun _ h => by cases h⟩
        · simp at h
      · simp at h
    | seq x y =>
      refine ⟨?_, fun _ h => by cases h⟩
      simp only [evCode] at h
      split at h
      · rename_i tm1 S1 h1
        exact CodeOk.seq (evCode_ok hX hF h1).1 (evCode_ok hX hF h).1
      · rename_i hne
        refine CodeOk.seq_out (evCode_ok hX hF h).1 fun he => ?_
        subst he
        exact hne _ h
    | cond o x y =>
      refine ⟨?_, fun _ h => by cases h⟩
      simp only [evCode] at h
      split at h
      · rename_i b hb
        exact CodeOk.cond hb (evCode_ok hX hF h).1
      · simp at h
    | block id c =>
      refine ⟨?_, fun _ h => by cases h⟩
      simp only [evCode] at h
      split at h
      · rename_i e1 st h1
        simp at h; obtain ⟨rfl, rfl⟩ := h
        exact CodeOk.block (evCode_ok hX hF h1).1
      · simp at h
    | loop c =>
      have hR : Rounds X c tm (fnS S) e tm' (fnS S') := by
        simp only [evCode] at h
        split at h
        · rename_i tm1 S1 h1
          exact .more (evCode_ok hX hF h1).1 ((evCode_ok hX hF h).2 c rfl)
        · rename_i hne
          refine .out (evCode_ok hX hF h).1 fun he => ?_
          subst he
          exact hne _ h
      exact ⟨CodeOk.loop hR, fun b hb => by cases hb; exact hR⟩
    | _ => simp [evCode] at h

/-- How a function is left: which of its first arrays go on under their names. -/
def goesOn : Blk → Bool
  | .arr .. | .box _ | .it .. => true
  | _ => false

def exitPlan (L : Nat → Blk) (S0 : List Blk) (len : Nat) (args xs : List AV) : List Nat × (Nat → Bool) :=
  let R := reachN L 1000 (nmss args) []
  let dead := fun i => match S0[i]? with
    | some (.box _) => false
    | some _ => !(R.contains i && goesOn (L i))
    | none => false
  let first := (List.range S0.length).map fun i => if dead i then len else i
  let kept := (List.range S0.length).filter fun i => !dead i
  let all := reachN L 1000 (kept ++ nmss xs) []
  (first ++ all.filter (fun b => !kept.contains b), dead)

/-- Functions; those that `prim` tells are told by it. -/
def evF (X : Env) (md rmd : FuncId → List Bool) (prim : Orc) : Nat → Orc
  | 0, _, _, _ => none
  | n + 1, f, args, S0 => match prim f args S0 with
    | some r => some r
    | none => match X.P.funcs[f]? with
      | none => none
      | some fn => match fn.body with
        | none => none
        | some c => if (fn.name == "runtime.NumGoroutine") = false then (match evCode (evF X md rmd prim n) { X with nest := X.kp f } md 100000 c (args ++ List.replicate (fn.ntmps - args.length) undefA, S0) with
          | some (e, tm', S') => match e with
            | .normal | .ret => (match resA { X with nest := X.kp f } tm' (fnS S') fn.results.toList with
              | some rs => (match settleArgs (fnS S') (rmd f) rs with
                | some (xs, fr) => (let pl := exitPlan (upds (fnS S') fr) S0 S'.length args xs
                  exitOut (fnS S') S0.length (rmd f) pl.1 pl.2 rs)
                | none => none)
              | none => none)
            | _ => none
          | none => none) else none

theorem evF_ok {X : Env} (hX : EnvOk X) {md rmd : FuncId → List Bool} {prim : Orc} (hp : OrcOk X prim) : ∀ n, OrcOk X (evF X md rmd prim n)
  | 0, f, args, S0, r, S1, h => by simp [evF] at h
  | n + 1, f, args, S0, r, S1, h => by
    have ih := evF_ok hX (md := md) (rmd := rmd) hp n
    simp only [evF] at h
    split at h
    · rename_i k hk
      simp only [Option.some.injEq] at h; subst h
      exact hp f _ _ _ _ hk
    · split at h
      · simp at h
      · rename_i fn hfn
        split at h
        · simp at h
        · rename_i c hc
          split at h
          rotate_left
          · simp at h
          rename_i hname
          split at h
          rotate_left
          · simp at h
          rename_i e tm' S' hev
          have hX' : EnvOk { X with nest := X.kp f } := ⟨hX.T, hX.E, hX.mixed⟩
          have ih' : OrcOk { X with nest := X.kp f } (evF X md rmd prim n) := fun f args S0 r S1 h => ih f args S0 r S1 h
          have hcode := (evCode_ok hX' ih' hev).1
          have fin : ∀ he : e = .normal ∨ e = .ret, (match resA { X with nest := X.kp f } tm' (fnS S') fn.results.toList with
              | some rs => (match settleArgs (fnS S') (rmd f) rs with
                | some (xs, fr) => (let pl := exitPlan (upds (fnS S') fr) S0 S'.length args xs
                  exitOut (fnS S') S0.length (rmd f) pl.1 pl.2 rs)
                | none => none)
              | none => none) = some (r, S1) → Sem X f args S0 r S1 := by
            intro he h
            split at h
            rotate_left
            · simp at h
            rename_i rs hrs
            split at h
            rotate_left
            · simp at h
            exact Sem.of_code hX' hfn hname hc hcode he hrs h
          split at h
          · exact fin (.inl rfl) h
          · exact fin (.inr rfl) h
          · simp at h

/-- What a program's own table says of its types. -/
def tabOf (P : Program) (t : TypeId) : Option TI := match P.info? t, P.underlying t with
  | some i, some d => match i.zero with
    | some z => if z.cells.size = i.size ∧ ((tdOf d).agg = false → i.size = 1) then some ⟨tdOf d, i.size, i.bytes, z⟩ else none
    | none => none
  | _, _ => none

theorem tabOf_ok (P : Program) : TabOk P (tabOf P) := by
  intro t ti h
  unfold tabOf at h
  split at h
  rotate_left
  · simp at h
  rename_i i d hi hd
  split at h
  rotate_left
  · simp at h
  rename_i z hz
  split at h
  rotate_left
  · simp at h
  rename_i hc
  simp only [Option.some.injEq] at h; subst h
  exact ⟨⟨i, d, hi, rfl, rfl, hz, hd, rfl⟩, hc.1, hc.2⟩

/-- What is known of a program by its own table alone. -/
def envOf (P : Program) : Env := { P := P, T := tabOf P, E := fun _ => none, Gl := fun _ => none }
theorem envOf_ok (P : Program) (h : P.follows .mixedOrders = true) : EnvOk (envOf P) := ⟨tabOf_ok P, (fun t n h => by cases h), h⟩
end Go.Pl
