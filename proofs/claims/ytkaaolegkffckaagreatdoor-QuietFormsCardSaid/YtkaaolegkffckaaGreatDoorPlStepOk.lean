/- One operation: the model does what the plain machine does. -/
import Derived.Test.YtkaaolegkffckaaGreatDoorPlStep
set_option linter.unusedVariables false
set_option linter.unusedSimpArgs false
namespace Go.Pl

def StepOk (P : Program) (o : Oper) (a : Act) (w : World) (g : Gh) (L : Nat → Blk) (v : AV) (us : Us) : Prop :=
  ∃ (n : Next) (r : Value) (w' : World) (g' : Gh), (execOp a.eval o).run P w = .ok n w' ∧ (n = .value r ∨ n = .skip ∧ r = undef) ∧
    Mv w g L (· ∈ us.map (·.1)) w' g' (upds L us) ∧ VA w' g' (upds L us) v r

section
variable {P : Program} {o : Oper} {a : Act} {w : World} {g : Gh} {L : Nat → Blk}

theorem StepOk.pure (r : Rel w g L) {v : AV} {u : Value} (h : (execOp a.eval o).run P w = .ok (.value u) w) (hv : VA w g L v u) : StepOk P o a w g L v [] :=
  ⟨_, u, w, g, h, .inl rfl, Mv.refl r _, hv⟩

theorem StepOk.made {v : AV} {b : Nat} {blk : Blk} {u : Value} {w' : World} (h : (execOp a.eval o).run P w = .ok (.value u) w') (hm : Made w g L w' (· = b) (upd L b blk) v u) : StepOk P o a w g L v [(b, blk)] := by
  obtain ⟨g', hm, hv⟩ := hm
  exact ⟨_, u, w', g', h, .inl rfl, hm.mono fun i hi => by simp [hi], hv⟩

theorem PtOk_of {X : Env} {tm : List AV} (ht : TmOk w g L tm a.tmps) (hg : GlOk X w g.st) : ∀ ps : List (Nat × Operand), PtOk w g L (ps.map fun p => (p.1, aEval X tm p.2)) (ps.map fun p => (p.1, a.eval p.2))
  | [] => by simp only [List.map_nil, PtOk]
  | p :: ps => by
    simp only [List.map_cons, PtOk]
    exact ⟨_, _, rfl, eval_ok ht hg p.2, PtOk_of ht hg ps⟩

theorem VAs_eval {X : Env} {tm : List AV} (ht : TmOk w g L tm a.tmps) (hg : GlOk X w g.st) : ∀ xs : List Operand, VAs w g L (xs.map (aEval X tm)) (xs.map a.eval)
  | [] => by simp only [List.map_nil, VAs]
  | x :: xs => by
    simp only [List.map_cons, VAs]
    exact ⟨_, _, rfl, eval_ok ht hg x, VAs_eval ht hg xs⟩

theorem OptOk_of {X : Env} {tm : List AV} (ht : TmOk w g L tm a.tmps) (hg : GlOk X w g.st) (x : Option Operand) : OptOk w g L (x.map (aEval X tm)) (x.map a.eval) := by
  cases x with
  | none => rfl
  | some x => exact ⟨_, rfl, eval_ok ht hg x⟩

theorem aClear_ok {T : Tab} (hT : TabOk P T) (r : Rel w g L) {t ty : TypeId} {x : AV} {u : Value} {b : Nat} {blk : Blk} (h : aClear T L t x = some (b, blk)) (hv : VA w g L x u) :
    ∃ w', (Builtin.clear_ #[t] ty #[u]).run P w = .ok (.tuple #[]) w' ∧ ∃ g', Mv w g L (· = b) w' g' (upd L b blk) := by
  unfold aClear at h
  split at h
  · rename_i e _ _ _ hTt
    have ht := (hT t _ hTt).slc (e := e) rfl
    split at h
    · rename_i ti b' ver off len hte
      have hz := (hT e _ hte).zero_run w
      have hzs := (hT e _ hte).zs
      split at h
      · rename_i v es els hL
        split at h
        · rename_i hc
          obtain ⟨rfl, rfl, hle, hone⟩ := hc
          simp only [Option.some.injEq, Prod.mk.injEq] at h
          obtain ⟨rfl, rfl⟩ := h
          simp only [VA, hL] at hv
          have hx := hv.2.2 trivial
          have hbo := r.blk b'
          rw [hL] at hbo
          simp only [BlkOk] at hbo
          have hin : off + (List.replicate len (zeroCs ti)).length ≤ els.length := by simpa using hle
          by_cases h0 : len = 0
          · subst h0
            obtain ⟨⟨a, c, rfl⟩, _⟩ := hv
            refine ⟨w, ?_, g, ?_⟩
            · cases a <;> simp [Builtin.clear_, run_underlying ht]
            · have hwr : wr els off (List.replicate 0 (zeroCs ti)) = els := by simp [wr]
              rw [hwr]
              have := upd_self L b'
              rw [hL] at this
              rw [this]
              exact Mv.refl r _
          · cases hm : g.m b' with
            | none => simp only [hm] at hx; omega
            | some tt =>
              obtain ⟨k, o, n⟩ := tt
              simp only [hm] at hx hbo
              obtain ⟨hon, a, rfl, ha⟩ := hx
              obtain ⟨huni, hln, c, el, fr, hh, hf, hsz, h5, _, h7⟩ := hbo
              obtain rfl := ha (by omega)
              let vs := (List.replicate len ti.zero.cells.toList).flatten
              have hvl : vs.length = len * ti.size := by simp [vs, hzs]
              have hfit : o + off * ti.size + vs.length ≤ c.size := by
                have : (off + len) * ti.size ≤ n * ti.size := Nat.mul_le_mul_right _ hon
                rw [Nat.add_mul] at this
                omega
              have hvone : ∀ v ∈ vs, v.oneCell' = true := by
                intro v hv'
                simp only [vs, List.mem_flatten] at hv'
                obtain ⟨l', hl', hu⟩ := hv'
                rw [List.eq_of_mem_replicate hl'] at hu
                exact List.all_eq_true.1 hone v hu
              obtain ⟨w', c', hs, hrew, hcs, hf', hj⟩ := store_cells (P := P) hh vs (o := o + off * ti.size) hfit hf hvone
              have hzl : (zeroCs ti).length = ti.size := by simp [zeroCs, hzs]
              have hvals : ∀ i j, i < len → j < ti.size → vs[i * ti.size + j]? = some ti.zero.cells[j]! := by
                intro i j hi hjl
                have hlt := mul_lt_of hi hjl
                have hrz := range_zero ti.zero.cells (by omega) len
                rw [hzs] at hrz
                have : (List.replicate len ti.zero.cells.toList).flatten.toArray[i * ti.size + j]? = some ti.zero.cells[j]! := by
                  rw [← hrz]
                  simp [hlt, Nat.mod_eq_of_lt hjl]
                simpa [vs] using this
              refine ⟨w', ?_, g, Mv.write r hrew b' o n hm (by rw [hL]; trivial) (h7 trivial) _ (by rw [hL]; simp [BlkLe]) fun ev => ?_⟩
              · have hzc : Builtin.zeroCells ti.zero.cells len = vs.toArray := by
                  by_cases h00 : ti.size = 0
                  · have : ti.zero.cells = #[] := by
                      apply Array.eq_empty_of_size_eq_zero
                      omega
                    apply Array.eq_empty_of_size_eq_zero (by simp [Builtin.zeroCells, this]) |>.trans
                    symm
                    apply Array.eq_empty_of_size_eq_zero
                    simp [hvl, h00]
                  · have hrz := range_zero ti.zero.cells (by omega) len
                    rw [← hrz]
                    rfl
                obtain ⟨m, rfl⟩ : ∃ m, len = m + 1 := ⟨len - 1, by omega⟩
                simp [Builtin.clear_, run_underlying ht, hz, hzc, hs]
              · simp only [BlkOk, hm]
                refine ⟨fun e' he => ?_, by rw [wr_length _ _ _ hin]; exact hln, c', el, fr, hrew.new, hf', by omega, fun i' e' he j x' hx' => ?_, by simp, fun _ => h7 trivial⟩
                · simp only [wr, List.mem_append] at he
                  rcases he with (he | he) | he
                  · exact huni e' (List.mem_of_mem_take he)
                  · rw [List.eq_of_mem_replicate he]; exact hzl
                  · exact huni e' (List.mem_of_mem_drop he)
                · rw [wr_get _ _ _ hin] at he
                  simp only [List.length_replicate] at he
                  rw [hj]
                  split at he
                  · rename_i hi'
                    have he2 : e' = zeroCs ti := by
                      rw [List.getElem?_replicate] at he
                      split at he <;> simp at he
                      exact he.symm
                    subst he2
                    have hjl : j < ti.size := by rw [← hzl]; exact (List.getElem?_eq_some_iff.1 hx').1
                    have hm2 : off * ti.size + (i' - off) * ti.size = i' * ti.size := by rw [← Nat.add_mul]; congr 1; omega
                    have hlt := mul_lt_of (show i' - off < len by omega) hjl
                    rw [if_pos (by omega), show o + i' * ti.size + j - (o + off * ti.size) = (i' - off) * ti.size + j by omega, hvals _ _ (by omega) hjl]
                    have hjz : j < ti.zero.cells.size := by omega
                    have hxe : x' = cst1 ti.zero.cells[j]! := by
                      simp [zeroCs, hjz] at hx'
                      simp [hjz, hx']
                    refine ⟨_, rfl, List.all_eq_true.1 hone _ (by simp [hjz]), ?_⟩
                    rw [hxe]; exact cst1_ok _
                  · rename_i hi'
                    have hjl : j < ti.size := by
                      rw [← huni e' (List.mem_of_getElem? he)]
                      exact (List.getElem?_eq_some_iff.1 hx').1
                    rw [if_neg (by
                      rcases Nat.lt_or_ge i' off with h1 | h1
                      · have := mul_lt_of h1 hjl
                        omega
                      · have h2 : off + len ≤ i' := by omega
                        have h3 : (off + len) * ti.size ≤ i' * ti.size := Nat.mul_le_mul_right _ h2
                        rw [Nat.add_mul] at h3
                        omega)]
                    obtain ⟨u, hu, ho, hv'⟩ := h5 i' e' he j x' hx'
                    exact ⟨u, hu, ho, VA.ev ev x' u hv'⟩
        · simp at h
      · simp at h
    · simp at h
  · simp at h

theorem aop_ok {X : Env} (hX : EnvOk X) (r : Rel w g L) {tm : List AV} (ht : TmOk w g L tm a.tmps) (hg : GlOk X w g.st) {nx : Nat} {v : AV} {us : Us} (hn : nx ∈ us.map (·.1) → L nx = .none)
    (h : aop X tm L nx o.op = some (v, us)) : StepOk X.P o a w g L v us := by
  have ev := fun x => eval_ok (X := X) ht hg x
  have opt := fun x => OptOk_of (X := X) (a := a) ht hg x
  have hT := hX.T
  have pure1 : ∀ {y : AV} {s : Sem Value}, some (y, ([] : Us)) = some (v, us) → execOp a.eval o = (do pure (.value (← s)) : Sem Next) → (∃ u, s.run X.P w = .ok u w ∧ VA w g L y u) → StepOk X.P o a w g L v us := by
    rintro y s he hs ⟨u, hu, hv⟩
    simp only [Option.some.injEq, Prod.mk.injEq] at he
    obtain ⟨rfl, rfl⟩ := he
    exact StepOk.pure r (by rw [hs]; simp [hu]) hv
  cases hop : o.op with
  | move x =>
    simp only [hop, aop, Option.some.injEq, Prod.mk.injEq] at h
    obtain ⟨rfl, rfl⟩ := h
    exact StepOk.pure r (by simp [execOp, hop]) (ev x)
  | assign x =>
    simp only [hop, aop, Option.some.injEq, Prod.mk.injEq] at h
    obtain ⟨rfl, rfl⟩ := h
    exact StepOk.pure r (by simp [execOp, hop]) (ev x)
  | pick c x y =>
    simp only [hop, aop] at h
    split at h
    · rename_i b hc
      have hcv := ev c
      rw [hc] at hcv
      simp only [VA, VP] at hcv
      simp only [Option.some.injEq, Prod.mk.injEq] at h
      obtain ⟨rfl, rfl⟩ := h
      cases b with
      | true => exact StepOk.pure r (by simp [execOp, hop, hcv, asBool]; rfl) (by simpa using ev x)
      | false => exact StepOk.pure r (by simp [execOp, hop, hcv, asBool]; rfl) (by simpa using ev y)
    · simp at h
  | alloc e =>
    simp only [hop, aop] at h
    split at h
    · rename_i ti hti
      simp only [Option.some.injEq, Prod.mk.injEq] at h
      obtain ⟨rfl, rfl⟩ := h
      refine StepOk.made (by simp [execOp, hop, (hT e _ hti).alloc]; exact ⟨rfl, rfl⟩) ?_
      have := box_new r (hn (by simp)) (us := ti.zero.cells.toList) (el := e) (fr := (0, 0)) (by simpa using Plus.alloc w ti.zero.cells e) (noFz_zero _) (cst1s_ok (w := w) (g := g) (L := L) ti.zero.cells.toList)
      exact this
    · simp at h
  | box e x =>
    simp only [hop, aop] at h
    split at h
    · rename_i cs hcs
      simp only [Option.some.injEq, Prod.mk.injEq] at h
      obtain ⟨rfl, rfl⟩ := h
      obtain ⟨us, hus, hv, _⟩ := cellsOf_ok hcs (ev x)
      refine StepOk.made (w' := w.alloc (.cells (a.eval x).cells e)) (by simp [execOp, hop, TIok.box]; rfl) ?_
      rw [hus]
      exact box_new r (hn (by simp)) (Plus.alloc w us.toArray e) (noFz_zero _) hv
    · simp at h
  | build t parts =>
    simp only [hop, aop] at h
    split at h
    · rename_i y hy
      have e : (parts.map fun p => (p.1, a.eval p.2)) = (parts.toList.map fun p => (p.1, a.eval p.2)).toArray := by apply Array.ext'; simp
      refine pure1 (s := Instr.build t (parts.map fun p => (p.1, a.eval p.2))) h (by simp only [execOp, hop]) ?_
      rw [e]
      exact aBuild_ok hT hy (PtOk_of ht hg parts.toList)
    · simp at h
  | buildSlice t len parts =>
    simp only [hop, aop] at h
    split at h
    · rename_i fr' sz els hy
      split at h
      · rename_i hnf
        simp only [Option.some.injEq, Prod.mk.injEq] at h
        obtain ⟨rfl, rfl⟩ := h
        obtain ⟨u, w', hrun, g', hm, hv⟩ := aBuildSl_ok hT r hy (hn (by simp)) (fun p hp => by have := List.all_eq_true.1 hnf p hp; simpa using this) (PtOk_of ht hg parts.toList)
        refine ⟨.value u, u, w', g', ?_, .inl rfl, hm, hv⟩
        have e : (parts.map fun p => (p.1, a.eval p.2)) = (parts.toList.map fun p => (p.1, a.eval p.2)).toArray := by apply Array.ext'; simp
        have : (Instr.buildSlice t len (parts.map fun p => (p.1, a.eval p.2))).run X.P w = .ok u w' := by rw [e]; exact hrun
        simp only [execOp, hop, Sem.run_bind, this, Result.andThen_ok, Sem.run_pure]
      · simp at h
    · simp at h
  | load t x =>
    simp only [hop, aop] at h
    split at h
    · rename_i ti hti
      split at h
      · rename_i cs hcs
        refine pure1 (s := Instr.loadAt t (a.eval x)) h (by simp only [execOp, hop]) ?_
        obtain ⟨hl, k, ofs, us, hu, hul, hc, hv⟩ := readCells_ok r hcs (ev x)
        refine ⟨mkV ti us, ?_, aMk_ok hv fun hag => ?_⟩
        · simp [Instr.loadAt, Instr.sureAddr, hu, (hT t _ hti).load hul hc]
        · have := (hT t _ hti).one hag
          intro hcs0
          rw [hcs0] at hl
          simp at hl
          omega
      · simp at h
    · simp at h
  | store t x y =>
    simp only [hop, aop] at h
    split at h
    · rename_i ti cs hti hcs
      split at h
      · rename_i hlen
        split at h
        · rename_i us0 hst
          simp only [Option.some.injEq, Prod.mk.injEq] at h
          obtain ⟨rfl, rfl⟩ := h
          obtain ⟨us, hus, hv, hone⟩ := cellsOf_ok hcs (ev y)
          have hul := VAs_len hv
          obtain ⟨k, ofs, cur, el, f, hu, hh, hfit, hf, hgo⟩ := aStore_ok r hst (ev x) hv hone
          obtain ⟨w', c', hrun, hrew, hsz, hf', hj⟩ := (hT t _ hti).store (w := w) (o := ofs) hh (a.eval y) (by rw [hus]; simp; omega) (by omega) hf (by rw [hus]; simpa using hone)
          obtain ⟨g', _, hm⟩ := hgo w' c' hrew hsz hf' (fun j => by
            rw [hj j, hus]
            simp only [show us.length = ti.size by omega])
          refine ⟨.skip, undef, w', g', ?_, .inr ⟨rfl, rfl⟩, ?_, ?_⟩
          · simp [execOp, hop, Instr.storeAt, Instr.sureAddr, hu, hrun]
          · exact hm
          · simp only [undefA, VA, VAs]; exact ⟨[], rfl, rfl⟩
        · simp at h
      · simp at h
    · simp at h
  | nilCheck x =>
    simp only [hop, aop] at h
    split at h
    · rename_i hp
      simp only [Option.some.injEq, Prod.mk.injEq] at h
      obtain ⟨rfl, rfl⟩ := h
      obtain ⟨k, ofs, hu, _⟩ := ptrOk_ok hp (ev x)
      have hvx := ev x
      rw [hu] at hvx
      exact StepOk.pure r (by simp [execOp, hop, hu]) hvx
    · simp at h
  | binOp op t x y yt =>
    simp only [hop, aop] at h
    split at h
    · rename_i u hu
      refine pure1 (s := do eqGuard op t x y (a.eval x) (a.eval y); binOp op t (a.eval x) (a.eval y)) h (by simp only [execOp, hop]) ⟨u, ?_, by simp only [VA, VP]⟩
      exact aNilOwn_ok hT hu (ev x) (fun c hc => by rw [hc]; rfl)
    split at h
    · rename_i u hu
      refine pure1 (s := do eqGuard op t x y (a.eval x) (a.eval y); binOp op t (a.eval x) (a.eval y)) h (by simp only [execOp, hop]) ⟨u, ?_, by simp only [VA, VP]⟩
      exact aBin_ok hT hX.E hu (ev x) (ev y) (fun c hc => by rw [hc]; rfl)
    · simp at h
  | unOp op t x =>
    simp only [hop, aop] at h
    split at h
    · rename_i y hy
      exact pure1 h (by simp only [execOp, hop]) (aUn_ok hy (ev x))
    · simp at h
  | convert s d x =>
    simp only [hop, aop] at h
    split at h
    · rename_i y hy
      exact pure1 h (by simp only [execOp, hop]) (aConvInt_ok hT hy (ev x))
    · split at h
      · rename_i els hy
        simp only [Option.some.injEq, Prod.mk.injEq] at h
        obtain ⟨rfl, rfl⟩ := h
        obtain ⟨u, w', hrun, hm⟩ := aToBytes_ok hT r (hn (by simp)) hy (ev x)
        exact StepOk.made (by simp [execOp, hop, hrun]) hm
      · split at h
        · rename_i y hy
          exact pure1 h (by simp only [execOp, hop]) (aToStr_ok hT r hy (ev x))
        · simp at h
  | makeInterface t x =>
    simp only [hop, aop] at h
    split at h
    · rename_i y hy
      exact pure1 h (by simp only [execOp, hop]) (aMkIf_ok hT hy (ev x))
    · simp at h
  | makeFunc fn first caps =>
    simp only [hop, aop] at h
    split at h
    · rename_i f hf
      have hf0 : first = #[] := Array.ext' hf
      subst hf0
      simp only [Option.some.injEq, Prod.mk.injEq] at h
      obtain ⟨rfl, rfl⟩ := h
      refine StepOk.pure r (u := .func (.func f) #[] (caps.map a.eval)) (by simp [execOp, hop, Instr.makeFunc]) ?_
      simp only [VA]
      exact ⟨caps.toList.map a.eval, by congr 1; apply Array.ext'; simp, VAs_eval ht hg caps.toList⟩
    · simp at h
  | makeSlice t l c =>
    simp only [hop, aop] at h
    split at h
    · rename_i sz els hy
      simp only [Option.some.injEq, Prod.mk.injEq] at h
      obtain ⟨rfl, rfl⟩ := h
      obtain ⟨u, w', hrun, hm⟩ := aMkSl_ok hT r (hn (by simp)) hy (ev l) (ev c)
      exact StepOk.made (by simp [execOp, hop, hrun]) hm
    · simp at h
  | slice t x lo hi mx =>
    cases mx with
    | some m =>
      simp only [hop, aop] at h
      split at h
      · rename_i n h3
        simp only [Option.some.injEq, Prod.mk.injEq] at h
        obtain ⟨rfl, rfl⟩ := h
        obtain ⟨ad, c, hrun⟩ := aSlice3_ok hT h3 (ev x) (opt lo) (opt hi) (ev m)
        refine ⟨.value (.slice ad n c), .slice ad n c, w, g, ?_, .inl rfl, ?_, ?_⟩
        · simp only [execOp, hop, Option.map_some, Go.Sem.run_bind, hrun]; rfl
        · exact (Mv.deadNew r (hn (by simp))).mono fun i hi => by simp [hi]
        · simp only [upds, VA, upd_same]
          exact ⟨⟨_, _, rfl⟩, trivial⟩
      · simp at h
    | none =>
      simp only [hop, aop] at h
      split at h
      · rename_i y hy
        exact pure1 h (by simp only [execOp, hop, Option.map_none]) (aSlice_ok hT r hy (ev x) (opt lo) (opt hi))
      · simp at h
  | fieldAddr s x f =>
    simp only [hop, aop] at h
    split at h
    · rename_i y hy
      exact pure1 h (by simp only [execOp, hop]) (aField_ok hT hy (ev x))
    · simp at h
  | indexAddr t x i =>
    simp only [hop, aop] at h
    split at h
    · rename_i y hy
      exact pure1 h (by simp only [execOp, hop]) (aIndexAddr_ok hT r hy (ev x) (ev i))
    · simp at h
  | index t x i =>
    simp only [hop, aop] at h
    split at h
    · rename_i y hy
      exact pure1 h (by simp only [execOp, hop]) (aIndexStr_ok hT hy (ev x) (ev i))
    · simp at h
  | extract x i =>
    simp only [hop, aop] at h
    split at h
    · rename_i y hy
      exact pure1 h (by simp only [execOp, hop]) (aExtract_ok hy (ev x))
    · simp at h
  | typeAssert x xt t ok =>
    cases ok with
    | false => simp [hop, aop] at h
    | true =>
      simp only [hop, aop] at h
      split at h
      · rename_i y hy
        exact pure1 (s := Instr.typeAssert (a.eval x) xt t true) h (by simp only [execOp, hop]) (aAssert_ok hT hy (ev x))
      · simp at h
  | range t x =>
    simp only [hop, aop] at h
    split at h
    · rename_i s hy
      simp only [Option.some.injEq, Prod.mk.injEq] at h
      obtain ⟨rfl, rfl⟩ := h
      obtain ⟨u, w', hrun, hm⟩ := aRange_ok hT r (hn (by simp)) hy (ev x)
      exact StepOk.made (by simp [execOp, hop, hrun]) hm
    · simp at h
  | next x b =>
    cases b with
    | false => simp [hop, aop] at h
    | true =>
      simp only [hop, aop] at h
      obtain ⟨u, w', g', hrun, hm, hv⟩ := aNext_ok (P := X.P) (ty := o.type) r h (ev x)
      exact ⟨.value u, u, w', g', by simp [execOp, hop, hrun], .inl rfl, hm, hv⟩
  | call c =>
    obtain ⟨callee, args, ts⟩ := c
    obtain ⟨args⟩ := args
    obtain ⟨ts⟩ := ts
    cases callee with
    | value f => simp [hop, aop] at h
    | invoke x m => simp [hop, aop] at h
    | builtin b =>
      simp only [hop, aop] at h
      have run1 : ∀ (s : Sem Value) (u : Value) (w' : World), s.run X.P w = .ok u w' → (∀ cs, builtin b ⟨ts⟩ o.type cs (args.map a.eval).toArray = do pure (.value (← s))) → (execOp a.eval o).run X.P w = .ok (.value u) w' := by
        intro s u w' hs hb
        simp only [execOp, hop, resolve, Sem.run_bind, Sem.run_pure, Result.andThen_ok, invoke, List.map_toArray]
        rw [hb]
        simp [hs]
      unfold aBuiltin at h
      split at h
      · rename_i x t
        split at h
        · rename_i n hy
          simp only [Option.some.injEq, Prod.mk.injEq] at h
          obtain ⟨rfl, rfl⟩ := h
          exact StepOk.pure r (run1 (Builtin.len_ #[t] o.type #[a.eval x]) _ _ (aLen_ok hT hy (ev x)) (fun _ => rfl)) (by simp only [VA, VP])
        · simp at h
      · rename_i x y t t'
        split at h
        · rename_i z b' blk hy
          simp only [Option.some.injEq, Prod.mk.injEq] at h
          obtain ⟨rfl, rfl⟩ := h
          obtain ⟨u, w', hrun, hm⟩ := aAppend_ok (ty := o.type) hT r (fun e => hn (by simp [e])) hy (ev x) (ev y)
          exact StepOk.made (run1 (Builtin.append_ #[t, t'] o.type #[a.eval x, a.eval y]) _ _ hrun (fun _ => rfl)) hm
        · simp at h
      · rename_i x y
        split at h
        · rename_i z hy
          have hvx := ev x
          have hvy := ev y
          unfold aMinMax at hy
          split at hy
          · rename_i k m _ n hx1 hy1
            rw [hx1] at hvx
            rw [hy1] at hvy
            simp only [VA, VP] at hvx hvy
            simp only [Option.some.injEq, Prod.mk.injEq] at h hy
            obtain ⟨rfl, rfl⟩ := h
            subst hy
            exact StepOk.pure r (run1 (Builtin.min_ _ o.type #[a.eval x, a.eval y]) (.int k (if n < m then n else m)) w (by simp [Builtin.min_, Builtin.min2, hvx, hvy]) (fun _ => rfl)) (by simp only [VA, VP]; simp)
          · simp at hy
        · simp at h
      · rename_i x y
        split at h
        · rename_i z hy
          have hvx := ev x
          have hvy := ev y
          unfold aMinMax at hy
          split at hy
          · rename_i k m _ n hx1 hy1
            rw [hx1] at hvx
            rw [hy1] at hvy
            simp only [VA, VP] at hvx hvy
            simp only [Option.some.injEq, Prod.mk.injEq] at h hy
            obtain ⟨rfl, rfl⟩ := h
            subst hy
            exact StepOk.pure r (run1 (Builtin.max_ _ o.type #[a.eval x, a.eval y]) (.int k (if n > m then n else m)) w (by simp [Builtin.max_, Builtin.max2, hvx, hvy]) (fun _ => rfl)) (by simp only [VA, VP]; simp)
          · simp at hy
        · simp at h
      · rename_i x t
        split at h
        · rename_i b' blk hy
          simp only [Option.some.injEq, Prod.mk.injEq] at h
          obtain ⟨rfl, rfl⟩ := h
          obtain ⟨w', hrun, g', hm⟩ := aClear_ok (ty := o.type) hT r hy (ev x)
          exact StepOk.made (run1 (Builtin.clear_ #[t] o.type #[a.eval x]) _ _ hrun (fun _ => rfl)) ⟨g', hm, by simp only [VA, VAs]; exact ⟨[], rfl, rfl⟩⟩
        · simp at h
      · simp at h
  | _ => simp [hop, aop] at h
end
end Go.Pl
