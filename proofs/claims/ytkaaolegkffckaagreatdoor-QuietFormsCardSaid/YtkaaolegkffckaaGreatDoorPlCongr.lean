/- What an operation looks at. -/
import Derived.Test.YtkaaolegkffckaaGreatDoorPlStepOk
set_option linter.unusedVariables false
set_option linter.unusedSimpArgs false
namespace Go.Pl

mutual
/-- The names in a value. -/
def nms : AV → List Nat
  | .own b _ _ _ => [b]
  | .bp b _ => [b]
  | .ep b _ _ _ => [b]
  | .agg cs => nmss cs
  | .tup cs => nmss cs
  | .clo _ cs => nmss cs
  | _ => []
def nmss : List AV → List Nat
  | [] => []
  | c :: cs => nms c ++ nmss cs
end

def opReads (X : Env) (tm : List AV) : Op → List Nat
  | .binOp _ _ a _ _ => nms (aEval X tm a)
  | .load _ a | .nilCheck a | .next a _ | .fieldAddr _ a _ | .indexAddr _ a _ | .slice _ a _ _ _ | .convert _ _ a => nms (aEval X tm a)
  | .store _ a x => nms (aEval X tm a) ++ nms (aEval X tm x)
  | .buildSlice _ _ ps => nmss (ps.toList.map fun p => aEval X tm p.2)
  | .call c => nmss (c.args.toList.map (aEval X tm))
  | _ => []

section
variable {L L2 : Nat → Blk}

theorem readCells_congr {x : AV} {n : Nat} (h : ∀ b ∈ nms x, L b = L2 b) : readCells L n x = readCells L2 n x := by
  cases x <;> simp only [readCells, nms, List.mem_singleton, forall_eq] at h ⊢ <;> rw [h]

theorem ptrOk_congr {x : AV} (h : ∀ b ∈ nms x, L b = L2 b) : ptrOk L x = ptrOk L2 x := by
  cases x <;> simp only [ptrOk, nms, List.mem_singleton, forall_eq] at h ⊢ <;> rw [h]

theorem upds_agree {b : Nat} : ∀ (us : Us) {L L2 : Nat → Blk}, L b = L2 b → upds L us b = upds L2 us b
  | [], _, _, h => h
  | (c, x) :: us, L, L2, h => by
    simp only [upds]
    refine upds_agree us ?_
    unfold upd
    split
    · rfl
    · exact h

/-- Settling looks at what it turns. -/
def SetCongr (f : (Nat → Blk) → AV → Option (PV × Us)) : Prop :=
  ∀ (L L2 : Nat → Blk) (x : AV) (p : PV) (us : Us), f L x = some (p, us) → (∀ q ∈ us, L q.1 = L2 q.1) → f L2 x = some (p, us)

theorem thread_congr {f : (Nat → Blk) → AV → Option (PV × Us)} (hf : SetCongr f) : ∀ (cs : List AV) {L L2 : Nat → Blk} {ps : List PV} {us : Us}, thread f L cs = some (ps, us) → (∀ q ∈ us, L q.1 = L2 q.1) → thread f L2 cs = some (ps, us)
  | [], L, L2, ps, us, h, _ => h
  | c :: cs, L, L2, ps, us, h, ha => by
    simp only [thread] at h ⊢
    split at h
    · rename_i p u1 h1
      split at h
      · rename_i ps' u2 h2
        simp only [Option.some.injEq, Prod.mk.injEq] at h
        obtain ⟨rfl, rfl⟩ := h
        rw [hf L L2 c p u1 h1 fun q hq => ha q (by simp [hq])]
        simp only
        rw [thread_congr hf cs h2 fun q hq => upds_agree u1 (ha q (by simp [hq]))]
      · simp at h
    · simp at h

theorem threads_congr {f : (Nat → Blk) → AV → Option (PV × Us)} (hf : SetCongr f) : ∀ (es : List (List AV)) {L L2 : Nat → Blk} {ps : List (List PV)} {us : Us}, threads f L es = some (ps, us) → (∀ q ∈ us, L q.1 = L2 q.1) → threads f L2 es = some (ps, us)
  | [], L, L2, ps, us, h, _ => h
  | c :: cs, L, L2, ps, us, h, ha => by
    simp only [threads] at h ⊢
    split at h
    · rename_i p u1 h1
      split at h
      · rename_i ps' u2 h2
        simp only [Option.some.injEq, Prod.mk.injEq] at h
        obtain ⟨rfl, rfl⟩ := h
        rw [thread_congr hf c h1 fun q hq => ha q (by simp [hq])]
        simp only
        rw [threads_congr hf cs h2 fun q hq => upds_agree u1 (ha q (by simp [hq]))]
      · simp at h
    · simp at h

theorem settle1_congr : ∀ n, SetCongr (settle1 n) := by
  intro n
  induction n with
  | zero =>
    intro L L2 x p us h _
    cases x with
    | clo f caps => cases caps <;> exact h
    | own => simp [settle1] at h
    | _ => exact h
  | succ n ih =>
    intro L L2 x p us h ha
    cases x with
    | clo f caps => cases caps <;> exact h
    | own b ver off len =>
      simp only [settle1] at h
      cases hL : L b with
      | arr fz v es els =>
        simp only [hL] at h
        split at h
        · rename_i hc
          split at h
          · rename_i pss us1 h1
            split at h
            · simp at h
            · rename_i hne
              simp only [Option.some.injEq, Prod.mk.injEq] at h
              obtain ⟨rfl, rfl⟩ := h
              have hb := ha (b, .arr true v es (psA pss)) (by simp)
              simp only at hb
              rw [hL] at hb
              simp only [settle1, ← hb, if_pos hc]
              rw [threads_congr ih els h1 fun q hq => ha q (by simp [hq])]
              simp only
              rw [if_neg hne]
          · simp at h
        · simp at h
      | _ => simp [hL] at h
    | _ => exact h

theorem settles_congr {cs : List AV} {ps : List PV} {us : Us} (h : settles L cs = some (ps, us)) (ha : ∀ q ∈ us, L q.1 = L2 q.1) : settles L2 cs = some (ps, us) :=
  thread_congr (settle1_congr _) cs h ha

theorem preCells_congr {nest : Bool} {cs ds : List AV} {us : Us} (h : preCells nest L cs = some (ds, us)) (ha : ∀ q ∈ us, L q.1 = L2 q.1) : preCells nest L2 cs = some (ds, us) := by
  unfold preCells at h ⊢
  split
  · rename_i hn; simpa [hn] using h
  · rename_i hn
    simp only [hn] at h
    split at h
    · rename_i hf; cases hf
    split at h
    · rename_i ps us' hs
      simp only [Option.some.injEq, Prod.mk.injEq] at h
      obtain ⟨rfl, rfl⟩ := h
      rw [settles_congr hs ha]
    · simp at h

theorem readEls_congr {x : AV} (h : ∀ b ∈ nms x, L b = L2 b) : readEls L x = readEls L2 x := by
  cases x with
  | p y =>
    cases y with
    | sl els => rfl
    | v v =>
      cases v with
      | slice a l c => cases l <;> rfl
      | _ => rfl
  | own => simp only [readEls, nms, List.mem_singleton, forall_eq] at h ⊢; rw [h]
  | _ => rfl

theorem cellsOf_nms {x : AV} {cs : List AV} (h : cellsOf x = some cs) : nmss cs = nms x := by
  cases x with
  | agg ds =>
    simp only [cellsOf] at h
    split at h
    · simp at h; subst h; rfl
    · simp at h
  | tup => simp [cellsOf] at h
  | p y =>
    cases y with
    | sl => simp [cellsOf] at h; subst h; rfl
    | v z => cases z <;> first | (simp [cellsOf] at h; done) | (simp [cellsOf] at h; subst h; rfl)
  | own => simp [cellsOf] at h; subst h; rfl
  | nil => simp [cellsOf] at h; subst h; rfl
  | bp => simp [cellsOf] at h; subst h; rfl
  | ep => simp [cellsOf] at h; subst h; rfl
  | rp => simp [cellsOf] at h; subst h; rfl
  | clo => simp [cellsOf] at h; subst h; simp [nmss]
  | any => simp [cellsOf] at h

theorem aStore_congr {nest : Bool} {x : AV} {cs : List AV} {us : Us} (hs : aStore nest L x cs = some us) (h : ∀ b ∈ nms x, L b = L2 b) (h2 : ∀ q ∈ us, L q.1 = L2 q.1) : aStore nest L2 x cs = some us := by
  cases x with
  | bp b off => simp only [aStore, nms, List.mem_singleton, forall_eq] at h hs ⊢; rw [← h]; exact hs
  | ep b ver i off =>
    simp only [aStore, nms, List.mem_singleton, forall_eq] at h hs ⊢
    split at hs
    · rename_i ds us1 h1
      have hsub : ∀ q ∈ us1, q ∈ us := by
        split at hs
        · split at hs
          · split at hs
            · split at hs
              · simp only [Option.some.injEq] at hs
                intro q hq; rw [← hs]; simp [hq]
              · simp at hs
            · simp at hs
          · simp at hs
        · simp at hs
      rw [preCells_congr h1 fun q hq => h2 q (hsub q hq)]
      simp only
      rw [← upds_agree us1 h]
      exact hs
    · simp at hs
  | _ => simp [aStore] at hs

theorem aField_congr {T : Tab} {s f : Nat} {x : AV} (h : ∀ b ∈ nms x, L b = L2 b) : aField T L s f x = aField T L2 s f x := by
  unfold aField; rw [ptrOk_congr h]

theorem aIndexAddr_congr {T : Tab} {t : TypeId} {x i : AV} (h : ∀ b ∈ nms x, L b = L2 b) : aIndexAddr T L t x i = aIndexAddr T L2 t x i := by
  unfold aIndexAddr
  rw [ptrOk_congr h]
  cases x with
  | own b ver off len => simp only [nms, List.mem_singleton, forall_eq] at h; simp only [h]
  | p y => cases y <;> rfl
  | _ => rfl

theorem aSlice_congr {T : Tab} {t : TypeId} {x : AV} {lo hi : Option AV} (h : ∀ b ∈ nms x, L b = L2 b) : aSlice T L t x lo hi = aSlice T L2 t x lo hi := by
  unfold aSlice
  cases x with
  | own b ver off len => simp only [nms, List.mem_singleton, forall_eq] at h; simp only [h]
  | p y => cases y <;> rfl
  | _ => rfl

theorem nms_cst1 (v : Value) : nms (cst1 v) = [] := by
  unfold cst1
  split <;> rfl
theorem nmss_cst1 : ∀ vs : List Value, nmss (vs.map cst1) = []
  | [] => rfl
  | v :: vs => by simp only [List.map_cons, nmss, nms_cst1, nmss_cst1 vs, List.append_nil]
theorem nmss_append : ∀ (xs ys : List AV), nmss (xs ++ ys) = nmss xs ++ nmss ys
  | [], ys => rfl
  | x :: xs, ys => by simp only [List.cons_append, nmss, nmss_append xs ys, List.append_assoc]
theorem aBuildSl_congr {nest : Bool} {T : Tab} {t : TypeId} {len : Nat} {ps : List (Nat × AV)} {fr : Us} {sz : Nat} {els : List (List AV)} (h : aBuildSl nest T L t len ps = some (fr, sz, els)) (ha : ∀ q ∈ fr, L q.1 = L2 q.1) : aBuildSl nest T L2 t len ps = some (fr, sz, els) := by
  unfold aBuildSl at h ⊢
  split at h
  · split at h
    · rename_i ti _
      split at h
      · rename_i hc
        split at h
        · rename_i cs hcs
          split at h
          · rename_i hd
            split at h
            · rename_i pv fr' hp
              simp only [Option.some.injEq, Prod.mk.injEq] at h
              obtain ⟨rfl, rfl, rfl⟩ := h
              simp only [if_pos hc, hcs, if_pos hd]
              rw [preCells_congr hp ha]
            · simp at h
          · simp at h
        · simp at h
      · simp at h
    · simp at h
  · simp at h

theorem srcEls_congr {T : Tab} {t u2 : TypeId} {y : AV} (h : ∀ b ∈ nms y, L b = L2 b) : srcEls T L t u2 y = srcEls T L2 t u2 y := by
  unfold srcEls
  rw [readEls_congr h]

theorem aAppend_congr {T : Tab} {nx : Nat} {t u2 : TypeId} {x y : AV} (h : ∀ b ∈ nms x, L b = L2 b) (h2 : ∀ b ∈ nms y, L b = L2 b) : aAppend T L nx t u2 x y = aAppend T L2 nx t u2 x y := by
  unfold aAppend
  rw [srcEls_congr h2]
  cases x with
  | own b ver off len => simp only [nms, List.mem_singleton, forall_eq] at h; simp only [h]
  | p y => cases y <;> rfl
  | _ => rfl

theorem aNilOwn_congr {T : Tab} {op : BinOp} {t : TypeId} {y : Operand} {x : AV} (h : ∀ b ∈ nms x, L b = L2 b) : aNilOwn T L op t y x = aNilOwn T L2 op t y x := by
  unfold aNilOwn
  cases isNilConst y with
  | false => rfl
  | true =>
    simp only [if_true]
    cases T t with
    | none => rfl
    | some ti =>
      obtain ⟨td, s, b, z⟩ := ti
      cases td with
      | slc e =>
        cases x with
        | own b ver off len =>
          cases len with
          | zero => rfl
          | succ n =>
            have hb : L b = L2 b := h b (by simp [nms])
            simp only [hb]
        | _ => rfl
      | _ => rfl

theorem aSlice3_congr {T : Tab} {t : TypeId} {x : AV} {lo hi : Option AV} {mx : AV} (h : ∀ b ∈ nms x, L b = L2 b) : aSlice3 T L t x lo hi mx = aSlice3 T L2 t x lo hi mx := by
  have : len3 L x = len3 L2 x := by
    cases x with
    | own b ver off len => simp only [nms, List.mem_singleton, forall_eq] at h; simp only [len3, h]
    | p y => cases y <;> rfl
    | _ => rfl
  unfold aSlice3
  rw [this]

theorem aLen_congr {T : Tab} {t : TypeId} {x : AV} : aLen T L t x = aLen T L2 t x := rfl

theorem aClear_congr {T : Tab} {t : TypeId} {x : AV} (h : ∀ b ∈ nms x, L b = L2 b) : aClear T L t x = aClear T L2 t x := by
  unfold aClear
  cases x with
  | own b ver off len =>
    simp only [nms, List.mem_singleton, forall_eq] at h
    split
    · rename_i e _ _ _ _
      cases T e with
      | none => rfl
      | some ti => simp only [h]
    · rfl
  | _ =>
    clear h
    split
    · rename_i e _ _ _ _
      cases T e <;> rfl
    · rfl

theorem aToStr_congr {T : Tab} {s d : TypeId} {x : AV} (h : ∀ b ∈ nms x, L b = L2 b) : aToStr T L s d x = aToStr T L2 s d x := by
  unfold aToStr; rw [readEls_congr h]

theorem aBuiltin_congr {X : Env} {tm tm2 : List AV} {nx : Nat} {b : Builtin} {args : List Operand} {ts : List TypeId} (he : ∀ x ∈ args, aEval X tm x = aEval X tm2 x) (h : ∀ b ∈ nmss (args.map (aEval X tm)), L b = L2 b) :
    aBuiltin X tm L nx b args ts = aBuiltin X tm2 L2 nx b args ts := by
  unfold aBuiltin
  split
  · rename_i x t
    rw [← he x (by simp)]
    rfl
  · rename_i x y t t'
    rw [← he x (by simp), ← he y (by simp), aAppend_congr (L2 := L2) (fun b hb => h b (by simp [nmss, hb])) (fun b hb => h b (by simp [nmss, hb]))]
  · rename_i _ x y
    rw [← he x (by simp), ← he y (by simp)]
  · rename_i _ x y
    rw [← he x (by simp), ← he y (by simp)]
  · rename_i x t
    rw [← he x (by simp), aClear_congr (L2 := L2) (fun b hb => h b (by simp [nmss, hb]))]
  · rfl

theorem aNext_congr {x : AV} (h : ∀ b ∈ nms x, L b = L2 b) : aNext L x = aNext L2 x := by
  unfold aNext
  cases x with
  | bp b off =>
    simp only [nms, List.mem_singleton, forall_eq] at h
    cases off with
    | zero => simp only [h]
    | succ => rfl
  | _ => rfl

/-- An operation looks at its operands, and at the blocks that they name. -/
theorem aop_congr {X : Env} {tm tm2 : List AV} {nx : Nat} {op : Op} {y : AV} {us : Us} (hs : aop X tm L nx op = some (y, us)) (he : ∀ x ∈ op.operands, aEval X tm x = aEval X tm2 x) (h : ∀ b ∈ opReads X tm op, L b = L2 b) (h' : ∀ q ∈ us, L q.1 = L2 q.1) :
    aop X tm2 L2 nx op = some (y, us) := by
  have map2 : ∀ (ps : Array (Nat × Operand)), (∀ x ∈ (ps.toList.map (·.2)), aEval X tm x = aEval X tm2 x) → (ps.toList.map fun p => (p.1, aEval X tm p.2)) = (ps.toList.map fun p => (p.1, aEval X tm2 p.2)) := by
    intro ps hps
    apply List.map_congr_left
    intro p hp
    rw [hps p.2 (List.mem_map_of_mem hp)]
  cases op with
  | move x => refine Eq.trans (Eq.symm ?_) hs; simp only [aop]; rw [he x (by simp [Op.operands])]
  | assign x => refine Eq.trans (Eq.symm ?_) hs; simp only [aop]; rw [he x (by simp [Op.operands])]
  | pick c a b => refine Eq.trans (Eq.symm ?_) hs; simp only [aop]; rw [he c (by simp [Op.operands]), he a (by simp [Op.operands]), he b (by simp [Op.operands])]
  | alloc e => exact hs
  | box e x => refine Eq.trans (Eq.symm ?_) hs; simp only [aop]; rw [he x (by simp [Op.operands])]
  | build t ps => refine Eq.trans (Eq.symm ?_) hs; simp only [aop]; rw [map2 ps (fun x hx => he x (by simpa [Op.operands] using hx))]
  | buildSlice t len ps =>
    simp only [aop] at hs ⊢
    rw [← map2 ps (fun x hx => he x (by simpa [Op.operands] using hx))]
    split at hs
    · rename_i fr sz els hb
      split at hs
      · rename_i hc
        simp only [Option.some.injEq, Prod.mk.injEq] at hs
        obtain ⟨rfl, rfl⟩ := hs
        rw [aBuildSl_congr hb fun q hq => h' q (by simp [hq])]
        simp only [if_pos hc]
      · simp at hs
    · simp at hs
  | load t a => refine Eq.trans (Eq.symm ?_) hs; simp only [aop]; rw [← he a (by simp [Op.operands])]; simp only [readCells_congr (L2 := L2) (fun b hb => h b (by simpa [opReads] using hb))]
  | store t a x =>
    simp only [aop] at hs ⊢
    rw [← he a (by simp [Op.operands]), ← he x (by simp [Op.operands])]
    split at hs
    · rename_i ti cs hti hcs
      split at hs
      · rename_i hl
        split at hs
        · rename_i us' hst
          simp only [Option.some.injEq, Prod.mk.injEq] at hs
          obtain ⟨rfl, rfl⟩ := hs
          simp only [hti, hcs, if_pos hl]
          rw [aStore_congr hst (fun b hb => h b (by simp [opReads, hb])) h']
        · simp at hs
      · simp at hs
    · simp at hs
  | nilCheck x => refine Eq.trans (Eq.symm ?_) hs; simp only [aop]; rw [← he x (by simp [Op.operands]), ptrOk_congr (L2 := L2) (fun b hb => h b (by simpa [opReads] using hb))]
  | binOp op t x y yt => refine Eq.trans (Eq.symm ?_) hs; simp only [aop]; rw [← he x (by simp [Op.operands]), ← he y (by simp [Op.operands]), aNilOwn_congr (L2 := L2) (fun b hb => h b (by simpa [opReads] using hb))]
  | unOp op t x => refine Eq.trans (Eq.symm ?_) hs; simp only [aop]; rw [he x (by simp [Op.operands])]
  | convert s d x => refine Eq.trans (Eq.symm ?_) hs; simp only [aop]; rw [← he x (by simp [Op.operands]), aToStr_congr (L2 := L2) (fun b hb => h b (by simpa [opReads] using hb))]
  | makeInterface t x => refine Eq.trans (Eq.symm ?_) hs; simp only [aop]; rw [he x (by simp [Op.operands])]
  | makeFunc fn first caps =>
    refine Eq.trans (Eq.symm ?_) hs
    simp only [aop]
    have : caps.toList.map (aEval X tm) = caps.toList.map (aEval X tm2) := by
      apply List.map_congr_left
      intro x hx
      exact he x (by simp only [Op.operands, Array.mem_append]; exact .inr (by simpa using hx))
    rw [this]
  | makeSlice t l c => refine Eq.trans (Eq.symm ?_) hs; simp only [aop]; rw [he l (by simp [Op.operands]), he c (by simp [Op.operands])]
  | slice t x lo hi mx =>
    refine Eq.trans (Eq.symm ?_) hs
    cases mx with
    | some m =>
      simp only [aop]
      have h1 : lo.map (aEval X tm) = lo.map (aEval X tm2) := by
        cases lo with
        | none => rfl
        | some y => simp [he y (by simp [Op.operands])]
      have h2 : hi.map (aEval X tm) = hi.map (aEval X tm2) := by
        cases hi with
        | none => rfl
        | some y => simp [he y (by simp [Op.operands])]
      rw [← he x (by simp [Op.operands]), ← h1, ← h2, ← he m (by simp [Op.operands]), aSlice3_congr (L2 := L2) (fun b hb => h b (by simpa [opReads] using hb))]
    | none =>
      simp only [aop]
      have h1 : lo.map (aEval X tm) = lo.map (aEval X tm2) := by
        cases lo with
        | none => rfl
        | some y => simp [he y (by simp [Op.operands])]
      have h2 : hi.map (aEval X tm) = hi.map (aEval X tm2) := by
        cases hi with
        | none => rfl
        | some y => simp [he y (by simp [Op.operands])]
      rw [← he x (by simp [Op.operands]), ← h1, ← h2, aSlice_congr (L2 := L2) (fun b hb => h b (by simpa [opReads] using hb))]
  | fieldAddr s x f => refine Eq.trans (Eq.symm ?_) hs; simp only [aop]; rw [← he x (by simp [Op.operands]), aField_congr (L2 := L2) (fun b hb => h b (by simpa [opReads] using hb))]
  | indexAddr t x i => refine Eq.trans (Eq.symm ?_) hs; simp only [aop]; rw [← he x (by simp [Op.operands]), ← he i (by simp [Op.operands]), aIndexAddr_congr (L2 := L2) (fun b hb => h b (by simpa [opReads] using hb))]
  | index t x i => refine Eq.trans (Eq.symm ?_) hs; simp only [aop]; rw [he x (by simp [Op.operands]), he i (by simp [Op.operands])]
  | extract x i => refine Eq.trans (Eq.symm ?_) hs; simp only [aop]; rw [he x (by simp [Op.operands])]
  | typeAssert x xt t ok =>
    refine Eq.trans (Eq.symm ?_) hs
    cases ok <;> simp only [aop]
    rw [he x (by simp [Op.operands])]
  | range t x => refine Eq.trans (Eq.symm ?_) hs; simp only [aop]; rw [he x (by simp [Op.operands])]
  | next x b =>
    refine Eq.trans (Eq.symm ?_) hs
    cases b with
    | false => rfl
    | true =>
      simp only [aop]
      rw [← he x (by simp [Op.operands]), aNext_congr (L2 := L2) (fun b hb => h b (by simpa [opReads] using hb))]
  | call c =>
    refine Eq.trans (Eq.symm ?_) hs
    obtain ⟨callee, args, ts⟩ := c
    cases callee with
    | value f => rfl
    | invoke r m => rfl
    | builtin b =>
      simp only [aop]
      exact aBuiltin_congr (fun x hx => he x (by simp [Op.operands, Call.operands]; simpa using hx)) (fun b hb => h b (by simpa [opReads] using hb))
  | _ => exact hs
end
end Go.Pl
