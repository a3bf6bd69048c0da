/- append, in the plain machine. -/
import Derived.Test.YtkaaolegkffckaaGreatDoorPlNew
set_option linter.unusedVariables false
set_option linter.unusedSimpArgs false
namespace Go.Pl

/-- A block that nobody has settled is written, or taken from another place on. -/
theorem Mv.write2 {w g L w1 k c' el fr} (r : Rel w g L) (h : Rew w w1 k c' el fr) (b : Nat) (o n o' n' : Nat) (hm : g.m b = some (k, o, n)) (hl : Live (L b)) (hst : ∀ j, ¬ g.st k j)
    (x : Blk) (hle : BlkLe (g.m b) (some (k, o', n')) (L b) x) (hok : ∀ _ : Ev w g L w1 ⟨upd g.m b (some (k, o', n')), g.st⟩ (upd L b x), BlkOk w1 ⟨upd g.m b (some (k, o', n')), g.st⟩ (upd L b x) b x) :
    Mv w g L (· = b) w1 ⟨upd g.m b (some (k, o', n')), g.st⟩ (upd L b x) := by
  have hne : ∀ {i j}, g.st i j → i ≠ k := fun hs e => hst _ (e ▸ hs)
  have ev : Ev w g L w1 ⟨upd g.m b (some (k, o', n')), g.st⟩ (upd L b x) := by
    refine ⟨⟨fun _ _ x => x, fun i j hs => cell_same (h.old i (hne hs))⟩, fun i => ?_⟩
    by_cases hi : i = b
    · subst hi; simpa using hle
    · simp only [upd_other _ _ hi]; exact BlkLe.refl _ _
  have live : ∀ {i}, Live (upd L b x i) → Live (L i) := by
    intro i hi
    by_cases e : i = b
    · subst e; exact hl
    · rwa [upd_other _ _ e] at hi
  have place : ∀ {i k' o2 n2}, upd g.m b (some (k, o', n')) i = some (k', o2, n2) → ∃ o3 n3, g.m i = some (k', o3, n3) := by
    intro i k' o2 n2 hi
    by_cases e : i = b
    · subst e
      simp at hi
      exact ⟨o, n, by rw [hm, hi.1]⟩
    · rw [upd_other _ _ e] at hi
      exact ⟨o2, n2, hi⟩
  refine ⟨⟨?_, ?_, ?_⟩, ev, ⟨h.os, h.tape, h.output, by rw [h.size]; omega, fun i hi hn => h.old i fun e => hn ⟨b, o, n, rfl, hl, by rw [e]; exact hm⟩⟩, ?_, ?_, fun _ _ hs => .inl hs⟩
  · intro i
    by_cases hi : i = b
    · subst hi; rw [upd_same]; exact hok ev
    · rw [upd_other _ _ hi]
      by_cases hli : Live (L i)
      · exact (r.blk i).stay rfl ev (upd_other _ _ hi) (fun k' o2 n2 hm' => h.old k' fun e => hi (r.inj i b k' o2 n2 o n hli hl hm' (by rw [e]; exact hm))) (fun _ _ _ _ _ x => x)
      · exact BlkOk.off hli
  · intro i i' k2 o2 n2 o3 n3 hi hi' hm2 hm3
    obtain ⟨_, _, h2⟩ := place hm2
    obtain ⟨_, _, h3⟩ := place hm3
    exact r.inj i i' _ _ _ _ _ (live hi) (live hi') h2 h3
  · intro i j hs
    obtain ⟨u, hu⟩ := r.stc i j hs
    exact ⟨u, (cell_same (h.old i (hne hs))).trans hu⟩
  · intro i hi _
    exact ⟨upd_other _ _ hi, upd_other _ _ hi⟩
  · intro i k2 o2 n2 hi hm2
    obtain ⟨o3, n3, h2⟩ := place hm2
    exact .inl ⟨o3, n3, live hi, h2⟩

theorem Rew.same {w : World} {k : Nat} {c : Array Value} {el : TypeId} {fr : Nat × Nat} (h : w.heap[k]? = some (.cells c el fr)) : Rew w w k c el fr := ⟨rfl, rfl, rfl, rfl, h, fun _ _ => rfl⟩

/-- An array without a block goes on under the next version. -/
theorem Mv.next {w g L} (r : Rel w g L) (b v es : Nat) {fz : Bool} (hL : L b = .arr fz v es []) (hm : g.m b = none) : Mv w g L (· = b) w g (upd L b (.arr fz (v + 1) es [])) := by
  have ev : Ev w g L w g (upd L b (.arr fz (v + 1) es [])) := by
    refine ⟨Keep.refl _ _, fun i => ?_⟩
    by_cases hi : i = b
    · subst hi; simp [hL, BlkLe]
    · rw [upd_other _ _ hi]; exact BlkLe.refl _ _
  have live : ∀ {i}, Live (upd L b (.arr fz (v + 1) es []) i) → Live (L i) := by
    intro i hi
    by_cases e : i = b
    · subst e; rw [hL]; trivial
    · rwa [upd_other _ _ e] at hi
  refine ⟨⟨fun i => ?_, fun i i' k o n o' n' hl hl' hm1 hm2 => r.inj i i' k o n o' n' (live hl) (live hl') hm1 hm2, r.stc⟩, ev, Out.refl _ _, fun i hi _ => ⟨upd_other _ _ hi, rfl⟩, fun i k o n hl hm1 => .inl ⟨o, n, live hl, hm1⟩, fun _ _ hs => .inl hs⟩
  by_cases hi : i = b
  · subst hi; rw [upd_same]; simp [BlkOk, hm]
  · rw [upd_other _ _ hi]
    exact (r.blk i).stay rfl ev rfl (fun _ _ _ _ => rfl) (fun _ _ _ _ _ x => x)

/-- A settled array grows behind what is settled, which is settled then. -/
theorem Mv.grow {w g L w1 k c c' el fr} (r : Rel w g L) (h : Rew w w1 k c' el fr) (hh : w.heap[k]? = some (.cells c el fr)) (b o n : Nat) (hm : g.m b = some (k, o, n)) (hl : Live (L b))
    (hold : ∀ j, g.st k j → c'[j]? = c[j]?) (o' n' o2 m2 : Nat) (hin : o2 + m2 ≤ c'.size)
    (x : Blk) (hle : BlkLe (g.m b) (some (k, o', n')) (L b) x)
    (hok : ∀ _ : Ev w g L w1 ⟨upd g.m b (some (k, o', n')), (settle g k o2 m2).st⟩ (upd L b x), BlkOk w1 ⟨upd g.m b (some (k, o', n')), (settle g k o2 m2).st⟩ (upd L b x) b x) :
    Mv w g L (· = b) w1 ⟨upd g.m b (some (k, o', n')), (settle g k o2 m2).st⟩ (upd L b x) := by
  have hcell : ∀ i j, g.st i j → w1.cell? ⟨i, j, none⟩ = w.cell? ⟨i, j, none⟩ := fun i j hs => by
    by_cases e : i = k
    · subst e
      have := hold j hs
      simp only [World.cell?, h.new, hh]
      exact this
    · exact cell_same (h.old i e)
  have ev : Ev w g L w1 ⟨upd g.m b (some (k, o', n')), (settle g k o2 m2).st⟩ (upd L b x) := by
    refine ⟨⟨fun _ _ x => .inl x, hcell⟩, fun i => ?_⟩
    by_cases hi : i = b
    · subst hi; simpa using hle
    · simp only [upd_other _ _ hi]; exact BlkLe.refl _ _
  have live : ∀ {i}, Live (upd L b x i) → Live (L i) := by
    intro i hi
    by_cases e : i = b
    · subst e; exact hl
    · rwa [upd_other _ _ e] at hi
  have place : ∀ {i k' o2 n2}, upd g.m b (some (k, o', n')) i = some (k', o2, n2) → ∃ o3 n3, g.m i = some (k', o3, n3) := by
    intro i k' o2 n2 hi
    by_cases e : i = b
    · subst e
      simp at hi
      exact ⟨o, n, by rw [hm, hi.1]⟩
    · rw [upd_other _ _ e] at hi
      exact ⟨o2, n2, hi⟩
  refine ⟨⟨?_, ?_, ?_⟩, ev, ⟨h.os, h.tape, h.output, by rw [h.size]; omega, fun i hi hn => h.old i fun e => hn ⟨b, o, n, rfl, hl, by rw [e]; exact hm⟩⟩, ?_, ?_, ?_⟩
  · intro i
    by_cases hi : i = b
    · subst hi; rw [upd_same]; exact hok ev
    · rw [upd_other _ _ hi]
      by_cases hli : Live (L i)
      · refine (r.blk i).stay rfl ev (upd_other _ _ hi) (fun k' o2 n2 hm' => h.old k' fun e => hi (r.inj i b k' o2 n2 o n hli hl hm' (by rw [e]; exact hm))) ?_
        rintro k' o2 n2 j hm' (hs | ⟨rfl, _⟩)
        · exact hs
        · exact (hi (r.inj i b _ o2 n2 o n hli hl hm' hm)).elim
      · exact BlkOk.off hli
  · intro i i' k2 o2 n2 o3 n3 hi hi' hm2 hm3
    obtain ⟨_, _, h2⟩ := place hm2
    obtain ⟨_, _, h3⟩ := place hm3
    exact r.inj i i' _ _ _ _ _ (live hi) (live hi') h2 h3
  · rintro i j (hs | ⟨rfl, h1, h2⟩)
    · obtain ⟨u, hu⟩ := r.stc i j hs
      exact ⟨u, (hcell i j hs).trans hu⟩
    · have hj : j < c'.size := by omega
      exact ⟨c'[j], by simp [World.cell?, h.new, hj]⟩
  · intro i hi _
    exact ⟨upd_other _ _ hi, upd_other _ _ hi⟩
  · intro i k2 o2 n2 hi hm2
    obtain ⟨o3, n3, h2⟩ := place hm2
    exact .inl ⟨o3, n3, live hi, h2⟩
  · rintro i j (hs | ⟨rfl, _⟩)
    · exact .inl hs
    · exact .inr (.inl ⟨b, o, n, rfl, hl, hm⟩)

def room : Nat := 140737488355328

/-- What is appended. -/
def srcEls (T : Tab) (L : Nat → Blk) (t u2 : TypeId) (y : AV) : Option (List (List AV)) :=
  if u2 = t then readEls L y else match T u2, y with
    | some ⟨.str, _, _, _⟩, .p (.v (.string s)) => some (s.data.toList.map fun b => [AV.p (.v (.int .u8 b.toNat))])
    | _, _ => none

theorem srcEls_ok {P : Program} {T : Tab} (hT : TabOk P T) {w : World} {g : Gh} {L : Nat → Blk} (r : Rel w g L) {t u2 : TypeId} {y : AV} {els : List (List AV)} {u : Value} {sz : Nat} (h : srcEls T L t u2 y = some els) (hu : uni sz els = true) (hv : VA w g L y u) :
    ∃ news, SrcOk P w t u2 u els.length news ∧ Row w g L sz els news := by
  unfold srcEls at h
  split at h
  · rename_i he
    obtain ⟨a, cap, news, rfl, _, hrow, hc⟩ := readEls_ok r h hu hv
    exact ⟨news, .inl ⟨he, a, cap, rfl, hc⟩, hrow⟩
  · split at h
    · rename_i sz0 by0 z0 s hT2
      simp at h; subst h
      have h2 := (hT u2 _ hT2).str rfl
      simp only [VA, VP] at hv
      subst hv
      refine ⟨_, .inr ⟨h2, s, rfl, List.length_map .., rfl⟩, ?_, uni_ok hu, ?_, ?_⟩
      · cases hd : s.data.toList with
        | nil => simp
        | cons b bs =>
          have h1 : sz = 1 := by
            have := uni_ok hu [AV.p (.v (.int .u8 b.toNat))] (by simp [hd])
            simpa using this.symm
          subst h1; simp
      · intro i e he j x hx
        have hsz : sz = 1 := by
          have := uni_ok hu e (List.mem_of_getElem? he)
          simp only [List.getElem?_map, Option.map_eq_some_iff] at he
          obtain ⟨b, _, rfl⟩ := he
          simpa using this.symm
        subst hsz
        simp only [List.getElem?_map, Option.map_eq_some_iff] at he
        obtain ⟨b, hb, rfl⟩ := he
        cases j with
        | zero =>
          simp at hx; subst hx
          exact ⟨_, by simp only [Nat.mul_one, Nat.add_zero, List.getElem?_map, hb]; rfl, by simp only [VA, VP]⟩
        | succ j => simp at hx
      · intro v hv
        simp only [List.mem_map] at hv
        obtain ⟨b, _, rfl⟩ := hv
        rfl
    · simp at h

def aAppend (T : Tab) (L : Nat → Blk) (nx : Nat) (t u2 : TypeId) (x y : AV) : Option (AV × Nat × Blk) :=
  match T t with
  | some ⟨.slc e, _, _, _⟩ => (match T e, srcEls T L t u2 y with
    | some ti, some els2 => if uni ti.size els2 = true then (match x with
      | .nil _ => if els2.length * ti.bytes ≤ room ∧ els2.length ≤ room then some (.own nx 0 0 els2.length, nx, .arr false 0 ti.size els2) else none
      | .own b ver off len => (match L b with
        | .arr fz v es els => if ver = v ∧ es = ti.size ∧ off + len ≤ els.length ∧ (len + els2.length) * ti.bytes ≤ room ∧ len + els2.length ≤ room then
            (if off + len = els.length then some (.own b (v + 1) 0 (len + els2.length), b, .arr fz (v + 1) es (els.drop off ++ els2))
             else if fz = false ∧ off + len + els2.length ≤ els.length then some (.own b v off (len + els2.length), b, .arr false v es (wr els (off + len) els2))
             else none)
          else none
        | _ => none)
      | _ => none) else none
    | _, _ => none)
  | _ => none

section
variable {P : Program} {w : World} {g : Gh} {L : Nat → Blk}

/-- What was made may be settled at once. -/
theorem Made.fz {w' : World} {b ver es n : Nat} {els : List (List AV)} {v : Value} (h : Made w g L w' (· = b) (upd L b (.arr false ver es els)) (.own b ver 0 n) v) (fz : Bool) :
    Made w g L w' (· = b) (upd L b (.arr fz ver es els)) (.own b ver 0 n) v := by
  cases fz with
  | false => exact h
  | true =>
    obtain ⟨g1, m1, hv⟩ := h
    have e : ∀ x y, upd (upd L b x) b y = upd L b y := fun x y => by
      funext i; unfold upd; split <;> rfl
    cases hm : g1.m b with
    | some t =>
      obtain ⟨k, o, n'⟩ := t
      have m2 := Mv.freeze m1.rel b (v := ver) (es := es) (els := els) (by simp) hm
      refine ⟨settle g1 k o (els.length * es), ?_, ?_⟩
      · have := m1.trans m2 fun i hi => .inl hi
        rwa [e] at this
      · have := VA.ev m2.ev _ _ hv
        rwa [e] at this
    | none =>
      have hb := m1.rel.blk b
      rw [upd_same] at hb
      simp only [BlkOk, hm] at hb
      have m2 := Mv.retell m1.rel b (.arr true ver es els) (fun _ => by rw [upd_same]; trivial) (by simp [BlkLe]) fun ev => by simp only [BlkOk, hm]; exact hb
      refine ⟨g1, ?_, ?_⟩
      · have := m1.trans m2 fun i hi => .inl hi
        rwa [e] at this
      · have := VA.ev m2.ev _ _ hv
        rwa [e] at this

theorem mul_lt_of {i j n es : Nat} (h : i < n) (hj : j < es) : i * es + j < n * es := by
  have : (i + 1) * es ≤ n * es := Nat.mul_le_mul_right _ h
  rw [Nat.add_mul] at this
  omega

theorem aAppend_ok {T : Tab} (hT : TabOk P T) (r : Rel w g L) {nx : Nat} {t u2 ty : TypeId} {x y z : AV} {ux uy : Value} {b : Nat} {blk : Blk} (hn : b = nx → L nx = .none) (h : aAppend T L nx t u2 x y = some (z, b, blk)) (hx : VA w g L x ux) (hy : VA w g L y uy) :
    ∃ (v : Value) (w' : World), (Builtin.append_ #[t, u2] ty #[ux, uy]).run P w = .ok v w' ∧ Made w g L w' (· = b) (upd L b blk) z v := by
  unfold aAppend at h
  split at h
  · rename_i e sz0 by0 z0 hTt
    have ht := (hT t _ hTt).slc (e := e) rfl
    split at h
    · rename_i ti els2 hte hr2
      obtain ⟨i, d, hi, hsz, hby, hz, _, _⟩ := (hT e _ hte).ex
      have hzs := (hT e _ hte).zs
      split at h
      · rename_i hu2
        obtain ⟨news, hcell, hrow⟩ := srcEls_ok hT r hr2 hu2 hy
        have hnl : news.length = els2.length * i.size := by rw [hsz]; exact hrow.len
        -- an empty one is appended
        have nilnews : els2 = [] → news = [] := fun h0 => List.eq_nil_of_length_eq_zero (by rw [hnl, h0]; simp)
        split at h
        · rename_i inil
          simp only [VA] at hx
          obtain ⟨a, rfl, _⟩ := hx
          split at h
          · rename_i hb
            simp only [Option.some.injEq, Prod.mk.injEq] at h
            obtain ⟨rfl, rfl, rfl⟩ := h
            replace hn := hn rfl
            by_cases h0 : els2 = []
            · subst h0
              refine ⟨_, w, append_idle ht hi a 0 0 (Nat.le_refl _) hcell ty, ?_⟩
              -- an array without a block
              have hgm : ∃ g' : Gh, Mv w g L (· = nx) w g' (upd L nx (.arr false 0 ti.size [])) ∧ g'.m nx = none := by
                refine ⟨⟨upd g.m nx none, g.st⟩, ?_, by simp⟩
                have ev : Ev w g L w ⟨upd g.m nx none, g.st⟩ (upd L nx (.arr false 0 ti.size [])) := by
                  refine ⟨Keep.refl _ _, fun i => ?_⟩
                  by_cases hi : i = nx
                  · subst hi; rw [hn]; simp [BlkLe]
                  · simp only [upd_other _ _ hi]; exact BlkLe.refl _ _
                have livm : ∀ {i k o n}, Live (upd L nx (.arr false 0 ti.size []) i) → upd g.m nx none i = some (k, o, n) → Live (L i) ∧ g.m i = some (k, o, n) := by
                  intro i k o n h1 h2
                  by_cases e : i = nx
                  · subst e; simp at h2
                  · rw [upd_other _ _ e] at h1 h2; exact ⟨h1, h2⟩
                refine ⟨⟨fun i => ?_, fun i i' k o n o' n' hl hl' hm1 hm2 => ?_, r.stc⟩, ev, Out.refl _ _, fun i hi hl => ⟨upd_other _ _ hi, upd_other _ _ hi⟩, fun i k o n hl hm1 => ?_, fun _ _ hs => .inl hs⟩
                · by_cases hi : i = nx
                  · subst hi; rw [upd_same]; simp [BlkOk]
                  · rw [upd_other _ _ hi]
                    exact (r.blk i).stay rfl ev (upd_other _ _ hi) (fun _ _ _ _ => rfl) (fun _ _ _ _ _ x => x)
                · obtain ⟨h1, h2⟩ := livm hl hm1
                  obtain ⟨h3, h4⟩ := livm hl' hm2
                  exact r.inj i i' k o n o' n' h1 h3 h2 h4
                · obtain ⟨h1, h2⟩ := livm hl hm1
                  exact .inl ⟨o, n, h1, h2⟩
              obtain ⟨g', hmv, hg'⟩ := hgm
              refine ⟨g', hmv, ?_⟩
              simp only [VA, upd_same, hg']
              exact ⟨⟨_, _, rfl⟩, Nat.le_refl _, fun _ => by simp⟩
            · have hpos : 0 < els2.length := List.length_pos_iff.2 h0
              have hb1 := hb.1
              have hb2 := hb.2
              simp only [room] at hb1 hb2
              obtain ⟨w', c, cap', hrun, hplus, hge, hfit, hcs⟩ := append_grow (P := P) (w := w) (a1 := a) (len := 0) (cap := 0) (olds := []) ht hi hz (by rw [hsz]; exact hzs) (by simp) (.inl rfl) hnl hcell (by omega) (by simpa [hby] using hb1) (by simpa using hb2) ty
              simp only [Nat.zero_add, List.nil_append] at hrun hge hcs
              refine ⟨_, w', hrun, ?_⟩
              exact arr_new r hplus (noFz_zero c) hrow cap' hge (by rw [← hsz]; exact hfit) hcs 0 _ (fun _ => rfl) (by rw [hn]; simp [BlkLe])
          · simp at h
        · rename_i b' ver off len
          split at h
          · rename_i fz v es els hL
            split at h
            · rename_i hc
              obtain ⟨rfl, rfl, hle, hb1, hb2⟩ := hc
              simp only [room] at hb1 hb2
              simp only [VA, hL] at hx
              obtain ⟨_, _, hx⟩ := hx
              have hx := hx trivial
              have hbo := r.blk b'
              rw [hL] at hbo
              simp only [BlkOk] at hbo
              obtain ⟨huni, hbo⟩ := hbo
              cases hm : g.m b' with
              | none =>
                simp only [hm] at hx hbo
                obtain ⟨rfl, rfl, a, rfl⟩ := hx
                subst hbo
                simp only [List.length_nil, Nat.add_zero, if_true, List.drop_zero, List.nil_append, Option.some.injEq, Prod.mk.injEq, Nat.zero_add] at h hb1 hb2
                obtain ⟨rfl, rfl, rfl⟩ := h
                by_cases h0 : els2 = []
                · subst h0
                  refine ⟨_, w, append_idle ht hi a 0 0 (Nat.le_refl _) hcell ty, g, Mv.next r b' ver _ hL hm, ?_⟩
                  simp only [VA, upd_same, hm]
                  exact ⟨⟨_, _, rfl⟩, Nat.le_refl _, fun _ => by simp⟩
                · have hpos : 0 < els2.length := List.length_pos_iff.2 h0
                  obtain ⟨w', c, cap', hrun, hplus, hge, hfit, hcs⟩ := append_grow (P := P) (w := w) (a1 := a) (len := 0) (cap := 0) (olds := []) ht hi hz (by rw [hsz]; exact hzs) (by simp) (.inl rfl) hnl hcell (by omega) (by simpa [hby] using hb1) (by simpa using hb2) ty
                  simp only [Nat.zero_add, List.nil_append] at hrun hge hcs
                  exact ⟨_, w', hrun, (arr_new r hplus (noFz_zero c) hrow cap' hge (by rw [← hsz]; exact hfit) hcs (ver + 1) (· = b') (fun _ => rfl) (by rw [hL]; simp [BlkLe])).fz fz⟩
              | some tt =>
                obtain ⟨k, o, n⟩ := tt
                simp only [hm] at hx hbo
                obtain ⟨hon, a, rfl, ha⟩ := hx
                obtain ⟨hln, c, el, fr, hh, hfz, hsize, h5, h6, h7⟩ := hbo
                have hlive : Live (L b') := by rw [hL]; trivial
                split at h
                · -- at the end
                  rename_i hend
                  simp only [Option.some.injEq, Prod.mk.injEq] at h
                  obtain ⟨rfl, rfl, rfl⟩ := h
                  have hdrop : ElOk w g L ti.size (els.drop off) c (o + off * ti.size) := by
                    intro i' e' he j x' hx'
                    rw [List.getElem?_drop] at he
                    have := h5 (off + i') e' he j x' hx'
                    rwa [show o + (off + i') * ti.size + j = o + off * ti.size + i' * ti.size + j by rw [Nat.add_mul]; omega] at this
                  have hdl : (els.drop off).length = len := by simp; omega
                  have hdu : ∀ e' ∈ els.drop off, e'.length = ti.size := fun e' he => huni e' (List.mem_of_mem_drop he)
                  have hoff : o + off * ti.size + (n - off) * ti.size = o + n * ti.size := by
                    have : (off + (n - off)) * ti.size = n * ti.size := by congr 1; omega
                    rw [Nat.add_mul] at this
                    omega
                  have hdl2 : off * ti.size + len * ti.size = els.length * ti.size := by rw [← Nat.add_mul, hend]
                  by_cases h0 : els2 = []
                  · subst h0
                    cases fz with
                    | false =>
                      have hst := h7 rfl
                      refine ⟨_, w, append_idle ht hi a len (n - off) (by omega) hcell ty, _, Mv.write2 r (Rew.same hh) b' o n (o + off * ti.size) (n - off) hm hlive hst (.arr false (ver + 1) ti.size (els.drop off ++ [])) (by rw [hL]; simp [BlkLe]) fun ev => ?_, ?_⟩
                      · rw [List.append_nil] at ev ⊢
                        simp only [BlkOk, upd_same]
                        exact ⟨hdu, by omega, c, el, fr, hh, hfz, by omega, hdrop.ev ev, by simp, fun _ => hst⟩
                      · simp only [VA, upd_same]
                        exact ⟨⟨_, _, rfl⟩, Nat.le_refl _, fun _ => ⟨by simp; omega, a, by simp, fun hlt => by simpa using ha (by omega)⟩⟩
                    | true =>
                      have hst := h6 rfl
                      refine ⟨_, w, append_idle ht hi a len (n - off) (by omega) hcell ty, _, Mv.grow r (Rew.same hh) hh b' o n hm hlive (fun _ _ => rfl) (o + off * ti.size) (n - off) 0 0 (by omega) (.arr true (ver + 1) ti.size (els.drop off ++ [])) (by rw [hL]; simp [BlkLe]) fun ev => ?_, ?_⟩
                      · rw [List.append_nil] at ev ⊢
                        simp only [BlkOk, upd_same]
                        refine ⟨hdu, by omega, c, el, fr, hh, hfz, by omega, hdrop.ev ev, fun _ => ⟨fun j hj => .inl ?_, fun j hj => ?_⟩, by simp⟩
                        · rw [hdl] at hj
                          have := hst.1 (off * ti.size + j) (by omega)
                          rwa [← Nat.add_assoc] at this
                        · rcases hj with hj | ⟨_, h1, h2⟩
                          · have := hst.2 j hj; rw [hdl]; omega
                          · omega
                      · simp only [VA, upd_same]
                        exact ⟨⟨_, _, rfl⟩, Nat.le_refl _, fun _ => ⟨by simp; omega, a, by simp, fun hlt => by simpa using ha (by omega)⟩⟩
                  · have hpos : 0 < els2.length := List.length_pos_iff.2 h0
                    by_cases hroom : len + els2.length ≤ n - off
                    · obtain rfl := ha (by omega)
                      have hfit : o + off * ti.size + (n - off) * i.size ≤ c.size := by rw [hsz]; omega
                      obtain ⟨w', c', hrun, hrew, hcs, hfz', hj⟩ := append_room (P := P) (w := w) (k := k) (o := o + off * ti.size) (len := len) (cap := n - off) ht hi hh hfz hnl hcell hrow.one hroom hfit ty
                      rw [hsz] at hj
                      have hElNew : ∀ {g' L'}, Ev w g L w' g' L' → ElOk w' g' L' ti.size (els.drop off ++ els2) c' (o + off * ti.size) := by
                        intro g' L' ev i' e' he j x' hx'
                        have hjl : j < ti.size := by
                          have h1 := (List.getElem?_eq_some_iff.1 hx').1
                          have h2 : e'.length = ti.size := by
                            rcases List.mem_append.1 (List.mem_of_getElem? he) with h' | h'
                            · exact hdu e' h'
                            · exact hrow.uni e' h'
                          omega
                        rw [List.getElem?_append] at he
                        rw [hj]
                        split at he
                        · rename_i hi'
                          rw [hdl] at hi'
                          have := mul_lt_of hi' hjl
                          rw [if_neg (by omega)]
                          obtain ⟨u, hu, ho, hv⟩ := hdrop i' e' he j x' hx'
                          exact ⟨u, hu, ho, VA.ev ev x' u hv⟩
                        · rename_i hi'
                          rw [hdl] at hi' he
                          obtain ⟨u, hu, hv⟩ := hrow.val _ e' he j x' hx'
                          have hlt : (i' - len) * ti.size + j < news.length := (List.getElem?_eq_some_iff.1 hu).1
                          have hmul : len * ti.size + (i' - len) * ti.size = i' * ti.size := by rw [← Nat.add_mul]; congr 1; omega
                          rw [if_pos (by omega)]
                          exact ⟨u, by rwa [show o + off * ti.size + i' * ti.size + j - (o + off * ti.size + len * ti.size) = (i' - len) * ti.size + j by omega], hrow.one u (List.mem_of_getElem? hu), VA.ev ev x' u hv⟩
                      have hUni : ∀ e' ∈ els.drop off ++ els2, e'.length = ti.size := fun e' he => by
                        rcases List.mem_append.1 he with he | he
                        · exact hdu e' he
                        · exact hrow.uni e' he
                      cases fz with
                      | false =>
                        have hst := h7 rfl
                        refine ⟨_, w', hrun, _, Mv.write2 r hrew b' o n (o + off * ti.size) (n - off) hm hlive hst (.arr false (ver + 1) ti.size (els.drop off ++ els2)) (by rw [hL]; simp [BlkLe]) fun ev => ?_, ?_⟩
                        · simp only [BlkOk, upd_same]
                          exact ⟨hUni, by simp; omega, c', el, fr, hrew.new, hfz', by rw [hcs]; omega, hElNew ev, by simp, fun _ => hst⟩
                        · simp only [VA, upd_same]
                          exact ⟨⟨_, _, rfl⟩, Nat.le_refl _, fun _ => ⟨by omega, _, by simp; rfl, fun _ => by simp⟩⟩
                      | true =>
                        have hst := h6 rfl
                        have hnl2 : news.length = els2.length * ti.size := by rw [hnl, hsz]
                        have hroom2 : len * ti.size + els2.length * ti.size ≤ (n - off) * ti.size := by rw [← Nat.add_mul]; exact Nat.mul_le_mul_right _ hroom
                        refine ⟨_, w', hrun, _, Mv.grow r hrew hh b' o n hm hlive (fun j hs => by
                          have := hst.2 j hs
                          rw [hj, if_neg (by omega)]) (o + off * ti.size) (n - off) (o + els.length * ti.size) (els2.length * ti.size) (by rw [hcs]; omega) (.arr true (ver + 1) ti.size (els.drop off ++ els2)) (by rw [hL]; simp [BlkLe]) fun ev => ?_, ?_⟩
                        · simp only [BlkOk, upd_same]
                          refine ⟨hUni, by simp; omega, c', el, fr, hrew.new, hfz', by rw [hcs]; omega, hElNew ev, fun _ => ⟨fun j hj' => ?_, fun j hj' => ?_⟩, by simp⟩
                          · rw [List.length_append, hdl, Nat.add_mul] at hj'
                            by_cases hlt : j < len * ti.size
                            · left
                              have := hst.1 (off * ti.size + j) (by omega)
                              rwa [← Nat.add_assoc] at this
                            · right
                              exact ⟨rfl, by omega, by omega⟩
                          · rw [List.length_append, hdl, Nat.add_mul]
                            rcases hj' with hj' | ⟨_, h1, h2⟩
                            · have := hst.2 j hj'; omega
                            · omega
                        · simp only [VA, upd_same]
                          exact ⟨⟨_, _, rfl⟩, Nat.le_refl _, fun _ => ⟨by omega, _, by simp; rfl, fun _ => by simp⟩⟩
                    · have holds : ∃ olds, Row w g L ti.size (els.drop off) olds ∧ (olds = [] ∨ ∃ k o, a = some ⟨k, o, none⟩ ∧ ∀ (j : Nat) v, olds[j]? = some v → w.cell? ⟨k, o + j, none⟩ = some v) := by
                        have hbd : o + off * ti.size + (els.drop off).length * ti.size ≤ c.size := by
                          rw [hdl]
                          have : len * ti.size ≤ (n - off) * ti.size := Nat.mul_le_mul_right _ (by omega)
                          omega
                        obtain ⟨h1, h2⟩ := row_of hdu hdrop hbd
                        refine ⟨_, h1, ?_⟩
                        by_cases hz0 : off < n
                        · exact .inr ⟨k, _, ha hz0, fun j v hv => by simpa [World.cell?, hh] using h2 j v hv⟩
                        · left
                          have : els.drop off = [] := List.eq_nil_of_length_eq_zero (by omega)
                          simp [this]
                      obtain ⟨olds, hro, hoc⟩ := holds
                      obtain ⟨w', c1, cap', hrun, hplus, hge, hfit, hcs⟩ := append_grow (P := P) (w := w) (a1 := a) (len := len) (cap := n - off) (olds := olds) ht hi hz (by rw [hsz]; exact hzs) (by rw [hro.len, hdl, hsz]) hoc hnl hcell (by omega) (by rw [hby]; exact hb1) hb2 ty
                      have hl3 : (els.drop off ++ els2).length = len + els2.length := by simp; omega
                      have := arr_new (nx := b') r hplus (noFz_zero c1) (hro.append hrow) cap' (by omega) (by rw [← hsz]; exact hfit) hcs (ver + 1) (· = b') (fun _ => rfl) (by rw [hL]; simp [BlkLe])
                      rw [hl3] at this
                      exact ⟨_, w', hrun, this.fz fz⟩
                · rename_i hend
                  split at h
                  · rename_i hin
                    obtain ⟨rfl, hin⟩ := hin
                    have hst := h7 rfl
                    simp only [Option.some.injEq, Prod.mk.injEq] at h
                    obtain ⟨rfl, rfl, rfl⟩ := h
                    have hwl : (wr els (off + len) els2).length = els.length := wr_length _ _ _ hin
                    by_cases h0 : els2 = []
                    · subst h0
                      have hwr : wr els (off + len) [] = els := by simp [wr]
                      rw [hwr]
                      refine ⟨_, w, append_idle ht hi a len (n - off) (by omega) hcell ty, g, ?_, ?_⟩
                      · have := upd_self L b'
                        rw [hL] at this
                        rw [this]
                        exact Mv.refl r _
                      · have := upd_self L b'
                        rw [hL] at this
                        rw [this]
                        simp only [VA, hL, hm]
                        exact ⟨⟨_, _, rfl⟩, Nat.le_refl _, fun _ => ⟨by simp; omega, a, by simp, ha⟩⟩
                    · have hpos : 0 < els2.length := List.length_pos_iff.2 h0
                      obtain rfl := ha (by omega)
                      have hoff : o + off * ti.size + (n - off) * ti.size = o + n * ti.size := by
                        have : (off + (n - off)) * ti.size = n * ti.size := by congr 1; omega
                        rw [Nat.add_mul] at this
                        omega
                      have hfit : o + off * ti.size + (n - off) * i.size ≤ c.size := by rw [hsz]; omega
                      obtain ⟨w', c', hrun, hrew, hcs, hfz', hj⟩ := append_room (P := P) (w := w) (k := k) (o := o + off * ti.size) (len := len) (cap := n - off) ht hi hh hfz hnl hcell hrow.one (by omega) hfit ty
                      rw [hsz] at hj
                      refine ⟨_, w', hrun, g, Mv.write r hrew b' o n hm hlive hst (.arr false ver ti.size (wr els (off + len) els2)) (by rw [hL]; simp [BlkLe]) fun ev => ?_, ?_⟩
                      · simp only [BlkOk, hm]
                        have hwu : ∀ e' ∈ wr els (off + len) els2, e'.length = ti.size := by
                          intro e' he
                          simp only [wr, List.mem_append] at he
                          rcases he with (he | he) | he
                          · exact huni e' (List.mem_of_mem_take he)
                          · exact hrow.uni e' he
                          · exact huni e' (List.mem_of_mem_drop he)
                        refine ⟨hwu, by omega, c', el, fr, hrew.new, hfz', by rw [hcs]; omega, fun i' e' he j x' hx' => ?_, by simp, fun _ => hst⟩
                        have hjl : j < ti.size := by
                          have h1 := (List.getElem?_eq_some_iff.1 hx').1
                          rw [hwu e' (List.mem_of_getElem? he)] at h1
                          exact h1
                        rw [wr_get _ _ _ hin] at he
                        rw [hj]
                        have hmul : off * ti.size + len * ti.size = (off + len) * ti.size := (Nat.add_mul _ _ _).symm
                        split at he
                        · rename_i hi'
                          obtain ⟨u, hu, hv⟩ := hrow.val _ e' he j x' hx'
                          have hlt : (i' - (off + len)) * ti.size + j < news.length := (List.getElem?_eq_some_iff.1 hu).1
                          have hm2 : (off + len) * ti.size + (i' - (off + len)) * ti.size = i' * ti.size := by rw [← Nat.add_mul]; congr 1; omega
                          rw [if_pos (by omega)]
                          exact ⟨u, by rwa [show o + i' * ti.size + j - (o + off * ti.size + len * ti.size) = (i' - (off + len)) * ti.size + j by omega], hrow.one u (List.mem_of_getElem? hu), VA.ev ev x' u hv⟩
                        · rename_i hi'
                          rw [if_neg (by
                            rcases Nat.lt_or_ge i' (off + len) with h1 | h1
                            · have := mul_lt_of h1 hjl
                              omega
                            · have h2 : off + len + els2.length ≤ i' := by omega
                              have h3 : (off + len + els2.length) * ti.size ≤ i' * ti.size := Nat.mul_le_mul_right _ h2
                              rw [Nat.add_mul (off + len)] at h3
                              have h4 := hrow.len
                              omega)]
                          obtain ⟨u, hu, ho, hv⟩ := h5 i' e' he j x' hx'
                          exact ⟨u, hu, ho, VA.ev ev x' u hv⟩
                      · simp only [VA, upd_same, hm]
                        exact ⟨⟨_, _, rfl⟩, Nat.le_refl _, fun _ => ⟨by omega, _, rfl, fun _ => rfl⟩⟩
                  · simp at h
            · simp at h
          · simp at h
        · simp at h
      · simp at h
    · simp at h
  · simp at h
end
end Go.Pl
