/- Reading the elements of a slice, and append. -/
import Derived.Test.YtkaaolegkffckaaGreatDoorPlBuild
import Derived.ArgAppend
set_option linter.unusedVariables false
set_option linter.unusedSimpArgs false
namespace Go.Pl

/-- The elements of a slice. -/
def readEls (L : Nat → Blk) : AV → Option (List (List AV))
  | .p (.sl els) => some (psA els)
  | .p (.v (.slice _ 0 _)) => some []
  | .nil _ => some []
  | .own b ver off len => match L b with
    | .arr _ v _ els => if ver = v ∧ off + len ≤ els.length then some ((els.drop off).take len) else none
    | _ => none
  | _ => none

/-- Cells in a row that are as elements say. -/
structure Row (w : World) (g : Gh) (L : Nat → Blk) (sz : Nat) (els : List (List AV)) (news : List Value) : Prop where
  len : news.length = els.length * sz
  uni : ∀ e ∈ els, e.length = sz
  val : ∀ i e, els[i]? = some e → ∀ (j : Nat) x, e[j]? = some x → ∃ u, news[i * sz + j]? = some u ∧ VA w g L x u
  one : ∀ u ∈ news, u.oneCell' = true

theorem Row.ev {w g L w' g' L' sz els news} (h : Row w g L sz els news) (k : Ev w g L w' g' L') : Row w' g' L' sz els news :=
  ⟨h.len, h.uni, fun i e he j x hx => let ⟨u, hu, hv⟩ := h.val i e he j x hx; ⟨u, hu, VA.ev k x u hv⟩, h.one⟩

theorem Row.nil (w : World) (g : Gh) (L : Nat → Blk) (sz : Nat) : Row w g L sz [] [] := ⟨by simp, by simp, by simp, by simp⟩

theorem Row.append {w g L sz els els' news news'} (h : Row w g L sz els news) (k : Row w g L sz els' news') : Row w g L sz (els ++ els') (news ++ news') := by
  refine ⟨by rw [List.length_append, List.length_append, Nat.add_mul, h.len, k.len], ?_, ?_, ?_⟩
  · intro e he
    rcases List.mem_append.1 he with he | he
    · exact h.uni e he
    · exact k.uni e he
  · intro i e he j x hx
    rw [List.getElem?_append] at he
    have hjs : j < sz := by
      have hl : j < e.length := (List.getElem?_eq_some_iff.1 hx).1
      split at he
      · rw [← h.uni e (List.mem_of_getElem? he)]; exact hl
      · rw [← k.uni e (List.mem_of_getElem? he)]; exact hl
    split at he
    · rename_i hi
      obtain ⟨u, hu, hv⟩ := h.val i e he j x hx
      refine ⟨u, ?_, hv⟩
      rw [List.getElem?_append_left (List.getElem?_eq_some_iff.1 hu).1]
      exact hu
    · rename_i hi
      obtain ⟨u, hu, hv⟩ := k.val _ e he j x hx
      refine ⟨u, ?_, hv⟩
      have hle : els.length ≤ i := by omega
      have hm : els.length * sz ≤ i * sz := Nat.mul_le_mul_right _ hle
      rw [List.getElem?_append_right (by rw [h.len]; omega), h.len]
      rw [Nat.sub_mul] at hu
      rwa [show i * sz + j - els.length * sz = i * sz - els.length * sz + j by omega]
  · intro u hu
    rcases List.mem_append.1 hu with hu | hu
    · exact h.one u hu
    · exact k.one u hu

/-- The cells of a piece of a block. -/
theorem row_of {w : World} {g : Gh} {L : Nat → Blk} {sz : Nat} {els : List (List AV)} {c : Array Value} {o : Nat} (huni : ∀ e ∈ els, e.length = sz) (h : ElOk w g L sz els c o) (hb : o + els.length * sz ≤ c.size) :
    Row w g L sz els ((c.toList.drop o).take (els.length * sz)) ∧ ∀ (j : Nat) u, ((c.toList.drop o).take (els.length * sz))[j]? = some u → c[o + j]? = some u := by
  have hget : ∀ j, j < els.length * sz → ((c.toList.drop o).take (els.length * sz))[j]? = c[o + j]? := by
    intro j hj
    rw [List.getElem?_take, if_pos hj, List.getElem?_drop]
    simp
  refine ⟨⟨by simp; omega, huni, ?_, ?_⟩, ?_⟩
  · intro i e he j x hx
    obtain ⟨u, hu, ho, hv⟩ := h i e he j x hx
    have hil : i < els.length := (List.getElem?_eq_some_iff.1 he).1
    have hjl : j < sz := by rw [← huni e (List.mem_of_getElem? he)]; exact (List.getElem?_eq_some_iff.1 hx).1
    have hlt : i * sz + j < els.length * sz := by
      have : (i + 1) * sz ≤ els.length * sz := Nat.mul_le_mul_right _ hil
      rw [Nat.add_mul] at this
      omega
    exact ⟨u, by rw [hget _ hlt, ← Nat.add_assoc]; exact hu, hv⟩
  · intro u hu
    obtain ⟨j, hj, rfl⟩ := List.getElem_of_mem hu
    have hj' : j < els.length * sz := by simp at hj; omega
    by_cases hz : sz = 0
    · subst hz; simp at hj'
    · have hsz : 0 < sz := by omega
      have hi : j / sz < els.length := by
        rw [Nat.div_lt_iff_lt_mul hsz]; exact hj'
      have hjm : j % sz < sz := Nat.mod_lt _ hsz
      have hel : els[j / sz].length = sz := huni _ (List.getElem_mem hi)
      obtain ⟨u, hu1, ho, _⟩ := h (j / sz) els[j / sz] (by simp [hi]) (j % sz) (els[j / sz][j % sz]'(by omega)) (by simp [hel, hjm])
      have h1 := hget j hj'
      rw [show o + j = o + j / sz * sz + j % sz by have := Nat.div_add_mod' j sz; omega, hu1] at h1
      have : ((c.toList.drop o).take (els.length * sz))[j]? = some ((c.toList.drop o).take (els.length * sz))[j] := List.getElem?_eq_getElem hj
      rw [this] at h1
      simp at h1
      simpa [h1] using ho
  · intro j u hu
    have hj : j < els.length * sz := by
      have := (List.getElem?_eq_some_iff.1 hu).1
      simp at this
      omega
    rwa [hget j hj] at hu

theorem VEs_row {w : World} {g : Gh} {L : Nat → Blk} {sz : Nat} : ∀ {els : List (List PV)} {k o : Nat}, (∀ e ∈ els, e.length = sz) → VEs w g.st els k o →
    ∃ news, Row w g L sz (psA els) news ∧ ∀ (j : Nat) u, news[j]? = some u → w.cell? ⟨k, o + j, none⟩ = some u := by
  have one : ∀ {e : List PV} {k o : Nat}, VCs w g.st e k o → ∃ us : List Value, us.length = e.length ∧ (∀ (j : Nat) x, e[j]? = some x → ∃ u, us[j]? = some u ∧ VP w g.st x u) ∧ (∀ u ∈ us, u.oneCell' = true) ∧ ∀ (j : Nat) u, us[j]? = some u → w.cell? ⟨k, o + j, none⟩ = some u := by
    intro e
    induction e with
    | nil => intro k o _; exact ⟨[], rfl, by simp, by simp, by simp⟩
    | cons x e ih =>
      intro k o h
      simp only [VCs] at h
      obtain ⟨_, ⟨u, hu, ho, hv⟩, h2⟩ := h
      obtain ⟨us, h3, h4, h5, h6⟩ := ih h2
      refine ⟨u :: us, by simp [h3], ?_, by simpa using ⟨ho, h5⟩, ?_⟩
      · intro j y hy
        cases j with
        | zero => simp at hy; subst hy; exact ⟨u, rfl, hv⟩
        | succ j => simpa using h4 j y (by simpa using hy)
      · intro j v hv'
        cases j with
        | zero => simp at hv'; subst hv'; simpa using hu
        | succ j =>
          have := h6 j v (by simpa using hv')
          rwa [show o + 1 + j = o + (j + 1) by omega] at this
  intro els
  induction els with
  | nil => intro k o _ _; exact ⟨[], Row.nil _ _ _ _, by simp⟩
  | cons e els ih =>
    intro k o hu h
    simp only [VEs] at h
    have he := hu e (by simp)
    obtain ⟨us, h1, h2, h3, h4⟩ := one h.1
    obtain ⟨news, h5, h6⟩ := ih (fun y hy => hu y (by simp [hy])) h.2
    have hr : Row w g L sz (psA [e]) us := by
      refine ⟨by simp [h1, he, psA], by simpa [psA] using he, ?_, h3⟩
      intro i e' he' j x hx
      cases i with
      | zero =>
        simp [psA] at he'; subst he'
        simp only [List.getElem?_map, Option.map_eq_some_iff] at hx
        obtain ⟨y, hy, rfl⟩ := hx
        simpa only [VA, Nat.zero_mul, Nat.zero_add] using h2 j y hy
      | succ i => simp [psA] at he'
    refine ⟨us ++ news, hr.append h5, ?_⟩
    intro j u hu'
    rw [List.getElem?_append] at hu'
    split at hu'
    · exact h4 j u hu'
    · rename_i hj
      have := h6 _ u hu'
      rwa [show o + e.length + (j - us.length) = o + j by omega] at this

/-- A slice whose elements are read: its cells. -/
theorem readEls_ok {w : World} {g : Gh} {L : Nat → Blk} (r : Rel w g L) {x : AV} {els : List (List AV)} {u : Value} {sz : Nat} (h : readEls L x = some els) (hu : uni sz els = true) (hv : VA w g L x u) :
    ∃ a cap news, u = .slice a els.length cap ∧ els.length ≤ cap ∧ Row w g L sz els news ∧ (news = [] ∨ ∃ k o, a = some ⟨k, o, none⟩ ∧ ∀ (j : Nat) v, news[j]? = some v → w.cell? ⟨k, o + j, none⟩ = some v) := by
  cases x with
  | p y =>
    cases y with
    | v y =>
      cases y with
      | slice a l c =>
        cases l with
        | zero =>
          simp [readEls] at h; subst h
          simp only [VA, VP] at hv
          subst hv
          exact ⟨a, c, [], rfl, Nat.zero_le _, Row.nil _ _ _ _, .inl rfl⟩
        | succ l => simp [readEls] at h
      | _ => simp [readEls] at h
    | sl els' =>
      simp [readEls] at h; subst h
      simp only [VA, VP] at hv
      obtain ⟨a, cap, rfl, hc, hx⟩ := hv
      rw [psA_length]
      rcases hx with rfl | ⟨k, o, rfl, hx⟩
      · exact ⟨a, cap, [], rfl, hc, Row.nil _ _ _ _, .inl rfl⟩
      · obtain ⟨news, h1, h2⟩ := VEs_row (L := L) (sz := sz) (fun e he => by
          have := uni_ok hu (e.map .p) (List.mem_map.2 ⟨e, he, rfl⟩)
          simpa using this) hx
        exact ⟨_, cap, news, rfl, hc, h1, .inr ⟨k, o, rfl, h2⟩⟩
  | nil i =>
    simp [readEls] at h; subst h
    simp only [VA] at hv
    obtain ⟨a, rfl, _⟩ := hv
    exact ⟨a, 0, [], rfl, Nat.le_refl _, Row.nil _ _ _ _, .inl rfl⟩
  | own b ver off len =>
    simp only [readEls] at h
    cases hL : L b with
    | arr fz v es all =>
      simp only [hL] at h
      split at h
      · rename_i hc
        obtain ⟨rfl, hle⟩ := hc
        obtain rfl : (all.drop off).take len = els := by simpa using h
        simp only [VA, hL] at hv
        have hx := hv.2.2 trivial
        have hbo := r.blk b
        rw [hL] at hbo
        simp only [BlkOk] at hbo
        have hlen : ((all.drop off).take len).length = len := by simp; omega
        rw [hlen]
        cases hm : g.m b with
        | none =>
          simp only [hm] at hx hbo
          obtain ⟨rfl, rfl, a, rfl⟩ := hx
          exact ⟨a, 0, [], rfl, Nat.le_refl _, by simpa using Row.nil _ _ _ _, .inl rfl⟩
        | some tt =>
          obtain ⟨k, o, n⟩ := tt
          simp only [hm] at hx hbo
          obtain ⟨hon, a, rfl, ha⟩ := hx
          obtain ⟨huni, hln, c, el, fr, hh, _, hsz, h5, _⟩ := hbo
          by_cases hz : len = 0
          · subst hz
            exact ⟨a, n - off, [], rfl, by omega, by simpa using Row.nil _ _ _ _, .inl rfl⟩
          · have hes : es = sz := by
              have h0 : 0 < ((all.drop off).take len).length := by omega
              have hmem := List.getElem_mem h0
              rw [← uni_ok hu _ hmem]
              exact (huni _ (List.mem_of_mem_drop (List.mem_of_mem_take hmem))).symm
            subst hes
            have hel : ElOk w g L es ((all.drop off).take len) c (o + off * es) := by
              intro i e he j x hx'
              rw [List.getElem?_take] at he
              split at he
              · rw [List.getElem?_drop] at he
                have := h5 (off + i) e he j x hx'
                rwa [show o + (off + i) * es + j = o + off * es + i * es + j by rw [Nat.add_mul]; omega] at this
              · simp at he
            have hbd : o + off * es + ((all.drop off).take len).length * es ≤ c.size := by
              rw [hlen]
              have : (off + len) * es ≤ n * es := Nat.mul_le_mul_right _ hon
              rw [Nat.add_mul] at this
              omega
            obtain ⟨h1, h2⟩ := row_of (uni_ok hu) hel hbd
            refine ⟨a, n - off, _, rfl, by omega, h1, .inr ⟨k, o + off * es, ha (by omega), fun j v hv' => ?_⟩⟩
            have := h2 j v hv'
            simpa [World.cell?, hh] using this
      · simp at h
    | none => simp [hL] at h
    | dead => simp [hL] at h
    | box => simp [hL] at h
    | it => simp [hL] at h
  | bp => simp [readEls] at h
  | ep => simp [readEls] at h
  | rp => simp [readEls] at h
  | clo => simp [readEls] at h
  | agg => simp [readEls] at h
  | tup => simp [readEls] at h
  | any => simp [readEls] at h

end Go.Pl
