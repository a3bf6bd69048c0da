/- The values and stores of a plain machine, how they stand for the model's, and that what holds stays. -/
import Derived.Calls
import Derived.Orders
import Derived.Laws.Sem
set_option linter.unusedVariables false
set_option linter.unusedSimpArgs false
namespace Go.Pl

/-- A value that is told inline: what it leads to is never written again. -/
inductive PV where
  | v (x : Value)
  | sl (els : List (List PV))

/-- A value of the plain machine. -/
inductive AV where
  | p (x : PV)
  | own (b ver off len : Nat)
  | nil (isnil : Bool)
  | bp (b off : Nat)
  | ep (b ver i off : Nat)
  | rp (cs : List PV)
  | clo (f : FuncId) (caps : List AV)
  | agg (cs : List AV)
  | tup (vs : List AV)
  | any

/-- A block of the plain machine. -/
inductive Blk where
  | none
  | dead
  | arr (fz : Bool) (ver es : Nat) (els : List (List AV))
  | box (cells : List AV)
  | it (s : ByteArray) (pos : Nat)

/-- Where names lie, and which cells are settled. -/
structure Gh where
  m : Nat → Option (Nat × Nat × Nat)
  st : Nat → Nat → Prop

mutual
def VP (w : World) (st : Nat → Nat → Prop) : PV → Value → Prop
  | .v x, u => u = x
  | .sl els, u => ∃ a cap, u = .slice a els.length cap ∧ els.length ≤ cap ∧ (els = [] ∨ ∃ k o, a = some ⟨k, o, Option.none⟩ ∧ VEs w st els k o)
def VEs (w : World) (st : Nat → Nat → Prop) : List (List PV) → Nat → Nat → Prop
  | [], _, _ => True
  | e :: els, k, o => VCs w st e k o ∧ VEs w st els k (o + e.length)
def VCs (w : World) (st : Nat → Nat → Prop) : List PV → Nat → Nat → Prop
  | [], _, _ => True
  | c :: cs, k, o => st k o ∧ (∃ u, w.cell? ⟨k, o, Option.none⟩ = some u ∧ u.oneCell' = true ∧ VP w st c u) ∧ VCs w st cs k (o + 1)
end

mutual
def VA (w : World) (g : Gh) (L : Nat → Blk) : AV → Value → Prop
  | .p x, u => VP w g.st x u
  | .own b ver off len, u => (∃ a c, u = .slice a len c) ∧ match L b with
    | .arr _ v es _ => ver ≤ v ∧ (ver = v → match g.m b with
      | Option.none => off = 0 ∧ len = 0 ∧ ∃ a, u = .slice a 0 0
      | some (k, o, n) => off + len ≤ n ∧ ∃ a, u = .slice a len (n - off) ∧ (off < n → a = some ⟨k, o + off * es, Option.none⟩))
    | .dead => True
    | _ => False
  | .nil isnil, u => ∃ a, u = .slice a 0 0 ∧ (isnil = true ↔ a = Option.none)
  | .bp b off, u => (∃ a, u = .pointer a) ∧ match L b with
    | .box _ => ∃ k n, g.m b = some (k, 0, n) ∧ u = .pointer (some ⟨k, off, Option.none⟩)
    | .it _ _ => ∃ k n, g.m b = some (k, 0, n) ∧ u = .pointer (some ⟨k, off, Option.none⟩)
    | .dead => True
    | _ => False
  | .ep b ver i off, u => (∃ a, u = .pointer a) ∧ match L b with
    | .arr _ v es _ => ver ≤ v ∧ (ver = v → ∃ k o n, g.m b = some (k, o, n) ∧ u = .pointer (some ⟨k, o + i * es + off, Option.none⟩))
    | .dead => True
    | _ => False
  | .rp cs, u => ∃ k o, u = .pointer (some ⟨k, o, Option.none⟩) ∧ VCs w g.st cs k o
  | .clo f caps, u => ∃ cv : List Value, u = .func (.func f) #[] cv.toArray ∧ VAs w g L caps cv
  | .agg cs, u => ∃ us : List Value, u = .agg us.toArray ∧ VAs w g L cs us
  | .tup cs, u => ∃ us : List Value, u = .tuple us.toArray ∧ VAs w g L cs us
  | .any, _ => True
def VAs (w : World) (g : Gh) (L : Nat → Blk) : List AV → List Value → Prop
  | [], us => us = []
  | c :: cs, us => ∃ u us', us = u :: us' ∧ VA w g L c u ∧ VAs w g L cs us'
end

/-- Settled cells stay, and stay settled. -/
structure Keep (w : World) (st : Nat → Nat → Prop) (w' : World) (st' : Nat → Nat → Prop) : Prop where
  sub : ∀ k j, st k j → st' k j
  cell : ∀ k j, st k j → w'.cell? ⟨k, j, none⟩ = w.cell? ⟨k, j, none⟩

theorem Keep.refl (w : World) (st : Nat → Nat → Prop) : Keep w st w st := ⟨fun _ _ h => h, fun _ _ _ => rfl⟩
theorem Keep.trans {w st w' st' w'' st''} (h : Keep w st w' st') (k : Keep w' st' w'' st'') : Keep w st w'' st'' :=
  ⟨fun _ _ x => k.sub _ _ (h.sub _ _ x), fun _ _ x => (k.cell _ _ (h.sub _ _ x)).trans (h.cell _ _ x)⟩

mutual
theorem VP.keep {w st w' st'} (h : Keep w st w' st') : ∀ (x : PV) (u : Value), VP w st x u → VP w' st' x u
  | .v x, u, hv => by simpa only [VP] using hv
  | .sl els, u, hv => by
    simp only [VP] at hv ⊢
    obtain ⟨a, cap, rfl, hc, hx⟩ := hv
    refine ⟨a, cap, rfl, hc, ?_⟩
    rcases hx with hx | ⟨k, o, ha, hx⟩
    · exact .inl hx
    · exact .inr ⟨k, o, ha, VEs.keep h els k o hx⟩
theorem VEs.keep {w st w' st'} (h : Keep w st w' st') : ∀ (els : List (List PV)) (k o : Nat), VEs w st els k o → VEs w' st' els k o
  | [], _, _, _ => by simp only [VEs]
  | e :: els, k, o, hv => by
    simp only [VEs] at hv ⊢
    exact ⟨VCs.keep h e k o hv.1, VEs.keep h els k (o + e.length) hv.2⟩
theorem VCs.keep {w st w' st'} (h : Keep w st w' st') : ∀ (cs : List PV) (k o : Nat), VCs w st cs k o → VCs w' st' cs k o
  | [], _, _, _ => by simp only [VCs]
  | c :: cs, k, o, hv => by
    simp only [VCs] at hv ⊢
    obtain ⟨h1, ⟨u, hu, ho, hp⟩, h2⟩ := hv
    exact ⟨h.sub _ _ h1, ⟨u, (h.cell _ _ h1).trans hu, ho, VP.keep h c u hp⟩, VCs.keep h cs k (o + 1) h2⟩
end

/-- How a block may go on: it keeps its place, unless its version goes up; what is dead stays so. -/
def BlkLe (m m' : Option (Nat × Nat × Nat)) : Blk → Blk → Prop
  | .none, _ => True
  | .dead, y => y = .dead
  | .arr _ v es _, .arr _ v' es' _ => v ≤ v' ∧ (v' = v → m' = m ∧ es' = es)
  | .arr .., .dead => True
  | .arr .., _ => False
  | .box _, .box _ => m' = m
  | .box _, .dead => True
  | .box _, _ => False
  | .it _ _, .it _ _ => m' = m
  | .it _ _, .dead => True
  | .it _ _, _ => False

theorem BlkLe.refl (m : Option (Nat × Nat × Nat)) (x : Blk) : BlkLe m m x x := by
  cases x <;> simp [BlkLe]

structure Ev (w : World) (g : Gh) (L : Nat → Blk) (w' : World) (g' : Gh) (L' : Nat → Blk) : Prop where
  keep : Keep w g.st w' g'.st
  le : ∀ b, BlkLe (g.m b) (g'.m b) (L b) (L' b)

theorem Ev.refl (w g L) : Ev w g L w g L := ⟨Keep.refl _ _, fun _ => BlkLe.refl _ _⟩

theorem BlkLe.trans {m m' m'' : Option (Nat × Nat × Nat)} {x y z : Blk} (h : BlkLe m m' x y) (k : BlkLe m' m'' y z) : BlkLe m m'' x z := by
  cases x with
  | none => simp [BlkLe]
  | dead => simp only [BlkLe] at h; subst h; simpa [BlkLe] using k
  | arr f v es els =>
    cases y with
    | arr f' v' es' els' =>
      cases z with
      | arr f'' v'' es'' els'' =>
        simp only [BlkLe] at h k ⊢
        refine ⟨by omega, fun e => ?_⟩
        obtain ⟨h1, h2⟩ := h.2 (by omega)
        obtain ⟨k1, k2⟩ := k.2 (by omega)
        exact ⟨k1.trans h1, k2.trans h2⟩
      | dead => simp [BlkLe]
      | _ => simp [BlkLe] at k
    | dead => simp only [BlkLe] at k; subst k; simp [BlkLe]
    | _ => simp [BlkLe] at h
  | box c =>
    cases y with
    | box c' =>
      cases z with
      | box c'' => simp only [BlkLe] at h k ⊢; exact k.trans h
      | dead => simp [BlkLe]
      | _ => simp [BlkLe] at k
    | dead => simp only [BlkLe] at k; subst k; simp [BlkLe]
    | _ => simp [BlkLe] at h
  | it s c =>
    cases y with
    | it s' c' =>
      cases z with
      | it s'' c'' => simp only [BlkLe] at h k ⊢; exact k.trans h
      | dead => simp [BlkLe]
      | _ => simp [BlkLe] at k
    | dead => simp only [BlkLe] at k; subst k; simp [BlkLe]
    | _ => simp [BlkLe] at h

theorem Ev.trans {w g L w' g' L' w'' g'' L''} (h : Ev w g L w' g' L') (k : Ev w' g' L' w'' g'' L'') : Ev w g L w'' g'' L'' :=
  ⟨h.keep.trans k.keep, fun b => (h.le b).trans (k.le b)⟩

mutual
theorem VA.ev {w g L w' g' L'} (h : Ev w g L w' g' L') : ∀ (x : AV) (u : Value), VA w g L x u → VA w' g' L' x u
  | .p x, u, hv => by simp only [VA] at hv ⊢; exact VP.keep h.keep x u hv
  | .own b ver off len, u, hv => by
    simp only [VA] at hv ⊢
    obtain ⟨h0, hv⟩ := hv
    refine ⟨h0, ?_⟩
    have hb := h.le b
    revert hv hb
    cases L b with
    | none => simp
    | dead => intro _ hb; simp only [BlkLe] at hb; rw [hb]; trivial
    | box => simp
    | it => simp
    | arr f v es els =>
      cases L' b with
      | none => simp [BlkLe]
      | dead => simp
      | box => simp [BlkLe]
      | it => simp [BlkLe]
      | arr f' v' es' els' =>
        simp only [BlkLe]
        intro hv hb
        refine ⟨by omega, fun e => ?_⟩
        obtain ⟨hm, he⟩ := hb.2 (by omega)
        rw [hm, he]
        exact hv.2 (by omega)
  | .nil i, u, hv => by simpa only [VA] using hv
  | .bp b off, u, hv => by
    simp only [VA] at hv ⊢
    obtain ⟨h0, hv⟩ := hv
    refine ⟨h0, ?_⟩
    have hb := h.le b
    revert hv hb
    cases L b with
    | none => simp
    | dead => intro _ hb; simp only [BlkLe] at hb; rw [hb]; trivial
    | arr => simp
    | box c =>
      cases L' b with
      | none => simp [BlkLe]
      | dead => simp
      | arr => simp [BlkLe]
      | it => simp [BlkLe]
      | box c' => simp only [BlkLe]; intro hv hb; rw [hb]; exact hv
    | it s c =>
      cases L' b with
      | none => simp [BlkLe]
      | dead => simp
      | arr => simp [BlkLe]
      | box => simp [BlkLe]
      | it s' c' => simp only [BlkLe]; intro hv hb; rw [hb]; exact hv
  | .ep b ver i off, u, hv => by
    simp only [VA] at hv ⊢
    obtain ⟨h0, hv⟩ := hv
    refine ⟨h0, ?_⟩
    have hb := h.le b
    revert hv hb
    cases L b with
    | none => simp
    | dead => intro _ hb; simp only [BlkLe] at hb; rw [hb]; trivial
    | box => simp
    | it => simp
    | arr f v es els =>
      cases L' b with
      | none => simp [BlkLe]
      | dead => simp
      | box => simp [BlkLe]
      | it => simp [BlkLe]
      | arr f' v' es' els' =>
        simp only [BlkLe]
        intro hv hb
        refine ⟨by omega, fun e => ?_⟩
        obtain ⟨hm, he⟩ := hb.2 (by omega)
        rw [hm, he]
        exact hv.2 (by omega)
  | .rp cs, u, hv => by
    simp only [VA] at hv ⊢
    obtain ⟨k, o, rfl, hc⟩ := hv
    exact ⟨k, o, rfl, VCs.keep h.keep cs k o hc⟩
  | .clo f caps, u, hv => by
    simp only [VA] at hv ⊢
    obtain ⟨cv, rfl, hc⟩ := hv
    exact ⟨cv, rfl, VAs.ev h caps cv hc⟩
  | .agg cs, u, hv => by
    simp only [VA] at hv ⊢
    obtain ⟨cv, rfl, hc⟩ := hv
    exact ⟨cv, rfl, VAs.ev h cs cv hc⟩
  | .tup cs, u, hv => by
    simp only [VA] at hv ⊢
    obtain ⟨cv, rfl, hc⟩ := hv
    exact ⟨cv, rfl, VAs.ev h cs cv hc⟩
  | .any, u, _ => by simp only [VA]
theorem VAs.ev {w g L w' g' L'} (h : Ev w g L w' g' L') : ∀ (x : List AV) (u : List Value), VAs w g L x u → VAs w' g' L' x u
  | [], u, hv => by simpa only [VAs] using hv
  | c :: cs, u, hv => by
    simp only [VAs] at hv ⊢
    obtain ⟨u, us, rfl, h1, h2⟩ := hv
    exact ⟨u, us, rfl, VA.ev h c u h1, VAs.ev h cs us h2⟩
end

end Go.Pl
