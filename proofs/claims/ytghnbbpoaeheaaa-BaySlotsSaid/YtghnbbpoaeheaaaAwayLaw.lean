/- BayAway, as plain data: a disk that is pulled and pushed is back behind a Cut with what lasts. -/
import Derived.Test.YtghnbbpoaeheaaaCutAll
namespace Go.Proofs.Ytghnbbpoaeheaaa

/-- A bay of two slots whose first disk has fl for good. -/
structure Away (fl : List Int) (B : By) : Prop where
  n : B.n = 2
  calm : B.Calm
  d0 : ∃ D, B.dev 0 = some ⟨D, false, 0⟩ ∧ D.failed = false ∧ D.las.flatten = fl
  d1 : B.dev 1 = none
  d2 : B.dev 2 = none
  d5 : B.dev 5 = none

theorem is0 {B : By} (h : B.n = 2) : B.is 0 := is_two h (.inl rfl)
theorem away_image {fl : List Int} {B : By} (h : Away fl B) : B.image 0 = fl ∧ B.tcode 0 = 0 ∧ B.has 0 = true := by
  obtain ⟨D, h1, h2, h3⟩ := h.d0
  have hi : B.in 0 = some ⟨D, false, 0⟩ := by unfold By.in; rw [if_pos (is0 h.n)]; exact h1
  refine ⟨?_, ?_, ?_⟩
  · unfold By.image; rw [hi]; simp only [Dk.image, h2]; simpa using h3
  · unfold By.tcode; rw [if_pos (is0 h.n), show (0 : Int).toNat * 3 = 0 from rfl, h1]
  · unfold By.has; rw [hi]; simp [h2]
theorem away_op {fl fl' : List Int} {B : By} (h : Away fl B) (ci : Nat) (g : Dk → Dk) (hf : ∀ D, (g D).failed = D.failed) (hg : ∀ D, D.failed = false → D.las.flatten = fl → (g D).las.flatten = fl') : Away fl' (B.op 0 ci g) := by
  obtain ⟨D, h1, h2, h3⟩ := h.d0
  have e : B.op 0 ci g = (B.tick ci).setDev 0 (some ⟨g D, false, 0⟩) := by
    rw [calm_op h.calm (is0 h.n) (e := ⟨D, false, 0⟩) h1]
    rfl
  rw [e]
  exact ⟨h.n, Calm.tick h.calm _ _ _, ⟨g D, by simp [By.setDev], by rw [hf]; exact h2, hg D h2 h3⟩, by simpa [By.setDev, put, By.tick] using h.d1, by simpa [By.setDev, put, By.tick] using h.d2, by simpa [By.setDev, put, By.tick] using h.d5⟩
theorem write_las (D : Dk) (a : Int) (b : List Int) : (D.write a b).las = D.las := by unfold Dk.write; split <;> rfl
theorem away_write {fl : List Int} {B : By} (h : Away fl B) (a : Int) (b : List Int) : Away fl (B.op 0 4 (fun D => D.write a b)) :=
  away_op h 4 _ (fun D => D.write_failed a b) (fun D _ hD => by rw [write_las]; exact hD)
theorem away_flush {fl : List Int} {B : By} (h : Away fl B) : ∃ fl', Away fl' (B.op 0 5 Dk.flush) := by
  obtain ⟨D, h1, h2, h3⟩ := h.d0
  have e : B.op 0 5 Dk.flush = (B.tick 5).setDev 0 (some ⟨D.flush, false, 0⟩) := by
    rw [calm_op h.calm (is0 h.n) (e := ⟨D, false, 0⟩) h1]
    rfl
  refine ⟨D.flush.las.flatten, ?_⟩
  rw [e]
  exact ⟨h.n, Calm.tick h.calm _ _ _, ⟨D.flush, by simp [By.setDev], by rw [D.flush_failed]; exact h2, rfl⟩, by simpa [By.setDev, put, By.tick] using h.d1, by simpa [By.setDev, put, By.tick] using h.d2, by simpa [By.setDev, put, By.tick] using h.d5⟩
theorem crash_nil (D : Dk) : D.crash [] = { D with cache := [] } := by
  unfold Dk.crash Dk.settle
  congr 1
  have : keepOf [] = fun _ => false := by funext i; simp [keepOf]
  rw [this]
  exact settled_none _ _ _

/-- What Pull, Push, Read, Push, Cut answer one behind the other. -/
theorem away_end {fl : List Int} {B : By} (h : Away fl B) (kl : List (Value × List Bool)) :
    (B.tcode 0 = 0 ∧ (B.pull 0).has 0 = false ∧ (B.pull 0).sectors 0 = 0) ∧
    ((B.pull 0).pushc 0 = 0 ∧ ((B.pull 0).push 0).opcode 0 (fun D => D.code 0) = 51) ∧
    ((((B.pull 0).push 0).op 0 3 id).has 0 = false ∧ (((B.pull 0).push 0).op 0 3 id).pushc 0 = 51) ∧
    (((((B.pull 0).push 0).op 0 3 id).push 0).cutg kl).tcode 0 = 0 ∧ (((((B.pull 0).push 0).op 0 3 id).push 0).cutg kl).image 0 = fl ∧ (((((B.pull 0).push 0).op 0 3 id).push 0).cutg kl).has 0 = true ∧ (((((B.pull 0).push 0).op 0 3 id).push 0).cutg kl).pending 0 = [] := by
  obtain ⟨D, h1, h2, h3⟩ := h.d0
  have hi : B.in 0 = some ⟨D, false, 0⟩ := by unfold By.in; rw [if_pos (is0 h.n)]; exact h1
  have z : (0 : Int).toNat * 3 = 0 := rfl
  obtain ⟨B1, e1⟩ : ∃ B1, B.pull 0 = B1 := ⟨_, rfl⟩
  have p1 : B1.n = 2 ∧ B1.Calm ∧ B1.dev 0 = none ∧ B1.dev 1 = some ⟨D.crash [], false, 0⟩ ∧ B1.dev 2 = none ∧ B1.dev 5 = none := by
    rw [← e1]
    unfold By.pull
    rw [hi]
    refine ⟨h.n, ⟨h.calm.trip, h.calm.dark⟩, ?_, ?_, ?_, ?_⟩ <;> simp [moved, aside, By.setDev, put, h.d2, h.d5]
  obtain ⟨n1, c1, a0, a1, a2, a5⟩ := p1
  have i1 : B1.in 0 = none := by unfold By.in; rw [if_pos (is0 n1)]; exact a0
  obtain ⟨B2, e2⟩ : ∃ B2, B1.push 0 = B2 := ⟨_, rfl⟩
  have pc1 : B1.pushc 0 = 0 := by unfold By.pushc By.takenAt; rw [if_pos (is0 n1), z, a1, a0, a2]; rfl
  have p2 : B2.n = 2 ∧ B2.Calm ∧ B2.dev 0 = none ∧ B2.dev 1 = none ∧ B2.dev 2 = some ⟨D.crash [], false, 0⟩ ∧ B2.dev 5 = none := by
    rw [← e2]
    unfold By.push
    rw [if_pos pc1]
    refine ⟨n1, ⟨c1.trip, c1.dark⟩, ?_, ?_, ?_, ?_⟩ <;> simp [moved, coming, a0, a1, a5]
  obtain ⟨n2, c2, b0, b1, b2, b5⟩ := p2
  have i2 : B2.in 0 = none := by unfold By.in; rw [if_pos (is0 n2)]; exact b0
  obtain ⟨B3, e3⟩ : ∃ B3, B2.op 0 3 id = B3 := ⟨_, rfl⟩
  have e3' : B3 = B2.tick 3 := by
    rw [← e3]
    unfold By.op
    rw [if_pos (is0 n2), c2.start, c2.dark, i2]
    rfl
  have p3 : B3.n = 2 ∧ B3.dev 0 = none ∧ B3.dev 1 = none ∧ B3.dev 2 = some ⟨D.crash [], false, 0⟩ ∧ B3.dev 5 = none := by rw [e3']; exact ⟨n2, b0, b1, b2, b5⟩
  obtain ⟨n3, d0, d1, d2, d5⟩ := p3
  have i3 : B3.in 0 = none := by unfold By.in; rw [if_pos (is0 n3)]; exact d0
  have pc3 : B3.pushc 0 = 51 := by unfold By.pushc; rw [if_pos (is0 n3), z, d1]
  have e4 : B3.push 0 = B3 := by unfold By.push; rw [pc3]; rfl
  have op2 : B2.opcode 0 (fun D => D.code 0) = 51 := by
    unfold By.opcode
    rw [if_pos (is0 n2), c2.start, c2.dark, i2]
    rfl
  -- behind the Cut
  have q : (B3.cutg kl).dev 0 = some ⟨D.crash [], false, 0⟩ ∧ (B3.cutg kl).n = 2 := by
    refine ⟨?_, (cutgTo_n B3 kl _).trans n3⟩
    show (B3.cutgTo kl B3.n).dev 0 = _
    rw [n3, By.cutgTo, By.cutgTo, By.cutgTo]
    have f1 : B3.crashAt kl 0 = B3 := by unfold By.crashAt; rw [d0]
    rw [f1]
    have f2 : (B3.comeAt 0).dev 0 = some ⟨D.crash [], false, 0⟩ ∧ (B3.comeAt 0).dev 5 = none := by
      unfold By.comeAt
      rw [show 0 * 3 + 2 = 2 from rfl, d2]
      constructor
      · simp [moved, comeq, d2]
      · simp [moved, comeq, d5]
    have f3 : ((B3.comeAt 0).crashAt kl 1).dev 5 = none ∧ ((B3.comeAt 0).crashAt kl 1).dev 0 = some ⟨D.crash [], false, 0⟩ := by
      unfold By.crashAt
      split
      · exact ⟨f2.2, f2.1⟩
      · exact ⟨by simpa [By.setDev, put] using f2.2, by simpa [By.setDev, put] using f2.1⟩
    unfold By.comeAt at *
    rw [show 1 * 3 + 2 = 5 from rfl, f3.1]
    exact f3.2
  obtain ⟨q1, q2⟩ := q
  have iq : (B3.cutg kl).in 0 = some ⟨D.crash [], false, 0⟩ := by unfold By.in; rw [if_pos (is0 q2)]; exact q1
  rw [e1, e2, e3, e4]
  refine ⟨⟨(away_image h).2.1, ?_, ?_⟩, ⟨pc1, op2⟩, ⟨?_, pc3⟩, ?_, ?_, ?_, ?_⟩
  · unfold By.has; rw [i1]
  · unfold By.sectors; rw [i1]
  · unfold By.has; rw [i3]
  · unfold By.tcode; rw [if_pos (is0 q2), z, q1]
  · unfold By.image
    rw [iq]
    simp only [crash_nil, Dk.image, h2]
    simpa using h3
  · unfold By.has; rw [iq]; simp [crash_nil, h2]
  · unfold By.pending; rw [iq]; simp [crash_nil, Dk.pending]
end Go.Proofs.Ytghnbbpoaeheaaa
