/- A call that can turn nothing, and whose results lead to nothing that is settled: its caller's arrays are not settled by it. -/
import Derived.Test.YtkaaolegkffckaaGreatDoorPlCall
set_option linter.unusedVariables false
set_option linter.unusedSimpArgs false
namespace Go.Pl

def flatPV : PV → Bool
  | .v _ => true
  | .sl els => els.isEmpty

mutual
def flatA : AV → Bool
  | .p x => flatPV x
  | .rp _ => false
  | .clo _ cs => flatAs cs
  | .agg cs => flatAs cs
  | .tup cs => flatAs cs
  | _ => true
def flatAs : List AV → Bool
  | [] => true
  | c :: cs => flatA c && flatAs cs
end

def flatB : Blk → Bool
  | .arr fz _ _ els => !fz && els.all flatAs
  | .box cells => flatAs cells
  | _ => true

theorem VP_flat {w st st2} {x : PV} {u : Value} (h : flatPV x = true) (hv : VP w st x u) : VP w st2 x u := by
  cases x with
  | v x => simpa only [VP] using hv
  | sl els =>
    simp only [flatPV, List.isEmpty_iff] at h
    subst h
    simp only [VP] at hv ⊢
    obtain ⟨a, cap, h1, h2, _⟩ := hv
    exact ⟨a, cap, h1, h2, .inl trivial⟩

mutual
theorem VA_flat {w : World} {g : Gh} {M : Nat → Blk} {st : Nat → Nat → Prop} : ∀ (x : AV) (u : Value), flatA x = true → VA w g M x u → VA w ⟨g.m, st⟩ M x u
  | .p x, u, h, hv => by simp only [flatA] at h; simp only [VA] at hv ⊢; exact VP_flat h hv
  | .own .., u, _, hv => by simpa only [VA] using hv
  | .nil _, u, _, hv => by simpa only [VA] using hv
  | .bp .., u, _, hv => by simpa only [VA] using hv
  | .ep .., u, _, hv => by simpa only [VA] using hv
  | .rp _, u, h, _ => by simp [flatA] at h
  | .clo f cs, u, h, hv => by
    simp only [flatA] at h; simp only [VA] at hv ⊢
    obtain ⟨cv, rfl, hv⟩ := hv
    exact ⟨cv, rfl, VAs_flat cs cv h hv⟩
  | .agg cs, u, h, hv => by
    simp only [flatA] at h; simp only [VA] at hv ⊢
    obtain ⟨cv, rfl, hv⟩ := hv
    exact ⟨cv, rfl, VAs_flat cs cv h hv⟩
  | .tup cs, u, h, hv => by
    simp only [flatA] at h; simp only [VA] at hv ⊢
    obtain ⟨cv, rfl, hv⟩ := hv
    exact ⟨cv, rfl, VAs_flat cs cv h hv⟩
  | .any, u, _, _ => by simp only [VA]
theorem VAs_flat {w : World} {g : Gh} {M : Nat → Blk} {st : Nat → Nat → Prop} : ∀ (xs : List AV) (us : List Value), flatAs xs = true → VAs w g M xs us → VAs w ⟨g.m, st⟩ M xs us
  | [], us, _, hv => by simpa only [VAs] using hv
  | x :: xs, us, h, hv => by
    simp only [flatAs, Bool.and_eq_true] at h
    simp only [VAs] at hv ⊢
    obtain ⟨u, us', rfl, h1, h2⟩ := hv
    exact ⟨u, us', rfl, VA_flat x u h.1 h1, VAs_flat xs us' h.2 h2⟩
end

theorem flatAs_get : ∀ {xs : List AV} {j : Nat} {x : AV}, flatAs xs = true → xs[j]? = some x → flatA x = true
  | [], j, x, _, h => by simp at h
  | y :: ys, j, x, hb, h => by
    simp only [flatAs, Bool.and_eq_true] at hb
    cases j with
    | zero => simp at h; subst h; exact hb.1
    | succ j => exact flatAs_get hb.2 (by simpa using h)

/-- What was settled for the call alone is settled no longer. -/
theorem MA.flat {w w' : World} {gv gv2 g' : Gh} {M0 M' : Nat → Blk} (h : MA w gv M0 w' g' M') (h0 : ∀ i, M0 i = .none) (hst : ∀ k j, gv2.st k j → ∃ u, w.cell? ⟨k, j, none⟩ = some u) (hfl : ∀ i, flatB (M' i) = true) :
    MA w gv2 M0 w' ⟨g'.m, gv2.st⟩ M' := by
  have noat : ∀ g k, ¬ At g M0 All k := by
    rintro g k ⟨b, o, n, _, hl, _⟩
    rw [h0 b] at hl
    exact hl
  have hsame : ∀ k, k < w.heap.size → w'.heap[k]? = w.heap[k]? := fun k hk => h.out.same k hk (noat _ k)
  have hcell : ∀ k j, gv2.st k j → w'.cell? ⟨k, j, none⟩ = w.cell? ⟨k, j, none⟩ := fun k j hs => by
    obtain ⟨u, hu⟩ := hst k j hs
    exact cell_same (hsame k (World.block_lt_of_cell? w _ hu))
  have hplace : ∀ b k o n, Live (M' b) → g'.m b = some (k, o, n) → w.heap.size ≤ k := fun b k o n hl hm => (h.place b k o n hl hm).resolve_left (noat _ k)
  have hnst : ∀ k, w.heap.size ≤ k → ∀ j, ¬ gv2.st k j := fun k hk j hs => by
    obtain ⟨u, hu⟩ := hst k j hs
    have := World.block_lt_of_cell? w _ hu
    simp only at this
    omega
  refine ⟨⟨fun b => ?_, h.rel.inj, fun k j hs => ?_⟩, ⟨⟨fun _ _ h => h, hcell⟩, fun b => by rw [h0 b]; trivial⟩, ⟨h.out.os, h.out.tape, h.out.output, h.out.size, fun k hk _ => hsame k hk⟩, fun b k o n hl hm => .inr (hplace b k o n hl hm), fun k j hs => .inl hs⟩
  · have hb := h.rel.blk b
    have hf := hfl b
    cases hM : M' b with
    | none => trivial
    | dead => trivial
    | arr fz v es els =>
      simp only [hM, flatB, Bool.and_eq_true, Bool.not_eq_true', List.all_eq_true] at hf
      obtain ⟨rfl, hf⟩ := hf
      simp only [hM, BlkOk] at hb ⊢
      refine ⟨hb.1, ?_⟩
      have h2 := hb.2
      cases hg : g'.m b with
      | none => simp only [hg] at h2 ⊢; exact h2
      | some t =>
        obtain ⟨k, o, n⟩ := t
        simp only [hg] at h2 ⊢
        obtain ⟨hl, c, el, fr, hh, h3, h4, h5, h6, h7⟩ := h2
        refine ⟨hl, c, el, fr, hh, h3, h4, fun i e he j x hx => ?_, (fun hf => by cases hf), fun _ => hnst k (hplace b k o n (by rw [hM]; trivial) hg)⟩
        obtain ⟨u, hu, ho, hv⟩ := h5 i e he j x hx
        exact ⟨u, hu, ho, VA_flat x u (flatAs_get (hf e (List.mem_of_getElem? he)) hx) hv⟩
    | it s pos =>
      simp only [hM, BlkOk] at hb ⊢
      obtain ⟨k, n, hg, hh, h6⟩ := hb
      exact ⟨k, n, hg, hh, hnst k (hplace b k 0 n (by rw [hM]; trivial) hg)⟩
    | box cells =>
      simp only [hM, flatB] at hf
      simp only [hM, BlkOk] at hb ⊢
      obtain ⟨k, n, hg, c, el, fr, hh, h3, h4, h5, h6⟩ := hb
      exact ⟨k, n, hg, c, el, fr, hh, h3, h4, fun j x hx => let ⟨u, hu, hv⟩ := h5 j x hx; ⟨u, hu, VA_flat x u (flatAs_get hf hx) hv⟩, hnst k (hplace b k 0 n (by rw [hM]; trivial) hg)⟩
  · obtain ⟨u, hu⟩ := hst k j hs
    exact ⟨u, (hcell k j hs).trans hu⟩

def pureUs (nx : Nat) (S1 : List Blk) : List (Nat × Blk) :=
  (List.range S1.length).map fun i => (sg [] nx i, renB (sg [] nx) (fun _ => 0) i (fnS S1 i))
def pureY (nx : Nat) (r : AV) : AV := ren (sg [] nx) (fun _ => 0) r

/-- Such a call. -/
theorem call_pure {X : Env} {o : Oper} {fx : Operand} {args : Array Operand} {tys : Array TypeId} {tm : List AV} {L : Nat → Blk} {nx : Nat} {ms : List Bool} {f : FuncId} {caps ys : List AV} {S1 : List Blk} {fr : Us} {r : AV}
    (ho : o.op = .call ⟨.value fx, args, tys⟩) (hf : aEval X tm fx = .clo f caps) (hin : callIn L nx ms [] (args.toList.map (aEval X tm)) caps = some (ys, [], fr))
    (hnew : ∀ b, nx ≤ b → b < nx + S1.length → L b = .none) (hs : Sem X f ys [] r S1) (hr : flatA r = true) (hS : S1.all flatB = true) : OpOk X o tm L (pureY nx r) (pureUs nx S1) := by
  intro w g a rel hg ht next Q hn
  unfold callIn at hin
  split at hin
  rotate_left
  · simp at hin
  rename_i xs fr' hset
  split at hin
  rotate_left
  · simp at hin
  rename_i hnd
  split at hin
  rotate_left
  · simp at hin
  rename_i ys' S0' hun hvw
  simp only [Option.some.injEq, Prod.mk.injEq] at hin
  obtain ⟨rfl, rfl, rfl⟩ := hin
  obtain ⟨⟨fn, hfn, hname, hbody⟩, hle, hcall⟩ := hs
  obtain ⟨g1, hg1, hm1, hargs1⟩ := settleArgs_ok rel hset
  have hav : VAs w g L (args.toList.map (aEval X tm)) (args.toList.map a.eval) := VAs_eval ht hg _
  have hav1 := hargs1 _ hav
  have hfv := eval_ok ht hg fx
  rw [hf] at hfv
  have hfv1 := VA.ev hm1.ev _ _ hfv
  simp only [VA] at hfv1
  obtain ⟨cv, hcv, hcaps⟩ := hfv1
  have hall : VAs w g1 (upds L fr') (xs ++ caps) (args.toList.map a.eval ++ cv) := by
    have : ∀ {xs : List AV} {us : List Value}, VAs w g1 (upds L fr') xs us → VAs w g1 (upds L fr') (xs ++ caps) (us ++ cv) := by
      intro xs
      induction xs with
      | nil => intro us h; simp only [VAs] at h; subst h; exact hcaps
      | cons x xs ih => intro us h; simp only [VAs] at h; obtain ⟨u, us', rfl, h1, h2⟩ := h; simp only [List.cons_append, VAs]; exact ⟨u, _, rfl, h1, ih h2⟩
    exact this hav1
  obtain ⟨hren, hbel⟩ := unrens_ok (nx := nx) _ hun
  obtain ⟨hlen, hview, hbox⟩ := view_of (nx := nx) (L := upds L fr') rfl (fun b hb => by simp at hb) hvw
  rw [← hren] at hall
  have hargs := VAs_down (gv := ghV g1 (sg [] nx)) hview.D (fun _ _ => rfl) rfl _ _ hbel hall
  have hrel := hm1.rel.view hview.D hbox
  have hgl : GlOk X w (ghV g1 (sg [] nx)).st := hg.keep hm1.ev.keep
  have hc := hcall w (ghV g1 (sg [] nx)) _ hrel hgl hargs
  have hrun : (execOp a.eval o).run X.P w = .ok (.enter f (args.toList.map a.eval ++ cv).toArray) w := by
    have he : (args.map a.eval ++ cv.toArray) = (args.toList.map a.eval ++ cv).toArray := by
      apply Array.toList_inj.1
      simp
    have hn1 : ¬ fn.name = "runtime.NumGoroutine" := by simpa using hname
    have hb1 : ¬ fn.body = none := by intro e; simp [e] at hbody
    simp [execOp, ho, resolve, hcv, Deferred.ofValue, invoke, callFunc, hfn, hn1, hb1, he]
  unfold Oper.wp
  rw [hrun, Oper.upon_enter]
  refine Calls.mono hc fun e w' h => ?_
  obtain ⟨v, rfl, g', hm2, hv⟩ := h
  have hinj : ∀ i j, sg [] nx i = sg [] nx j → i = j := fun i j e => sg_inj (σl := []) rfl (fun b hb => by simp at hb) i j e
  have hflat : ∀ i, flatB (fnS S1 i) = true := fun i => by
    unfold fnS
    rw [List.getD_eq_getElem?_getD]
    cases hi : S1[i]? with
    | none => rfl
    | some x => exact List.all_eq_true.1 hS x (List.mem_of_getElem? hi)
  have hm3 := hm2.flat (gv2 := ghV g (sg [] nx)) (fun i => rfl) rel.stc hflat
  have hv3 := VA_flat (st := g.st) r v hr hv
  have hview0 : View (sg [] nx) (fun _ => 0) 0 (fnS []) L := ⟨fun i hi => by omega, fun i _ => rfl, fun i j hi => by omega⟩
  obtain ⟨u1, u2⟩ := upds_range (L := L) (σ := sg [] nx) (x := fun i => renB (sg [] nx) (fun _ => 0) i (fnS S1 i)) S1.length (fun i j _ _ e => hinj i j e)
  have hview' : View (sg [] nx) (fun _ => 0) S1.length (fnS S1) (upds L (pureUs nx S1)) := ⟨fun i hi => u1 i hi, fun i hi => fnS_none hi, fun i j _ _ e => hinj i j e⟩
  have q1 : ∀ i, 0 ≤ i → i < S1.length → L (sg [] nx i) = .none := fun i _ h2 => by
    have hs : sg [] nx i = nx + i := by simp [sg]
    exact hnew _ (by omega) (by omega)
  obtain ⟨g'', hm4, hgm, hgs⟩ := MA.up rel hview0 (Nat.zero_le _) hm3 hview' q1 (fun b hb => u2 b hb)
  exact hn v w' g'' hm4 (VA_up hview' hgm hgs r v hv3)
end Go.Pl
