/- BayCuts, as plain data: behind a cut each sector is as it was, or as a write of the cache has it. -/
import Derived.Test.YtghnbbpoaeheaaaAwayLaw
namespace Go.Proofs.Ytghnbbpoaeheaaa

theorem settled_sector (keep : Nat → Bool) (k : Nat) : ∀ (c : List (Nat × List Int)) (i : Nat) (las : List (List Int)), (settled keep i c las)[k]? = las[k]? ∨ ∃ e ∈ c, e.1 = k ∧ (settled keep i c las)[k]? = some e.2
  | [], _, _ => .inl rfl
  | e :: r, i, las => by
    rw [settled]
    rcases settled_sector keep k r (i + 1) (if keep i then las.set e.1 e.2 else las) with h | ⟨x, hx, h1, h2⟩
    · by_cases hk : keep i = true
      · rw [if_pos hk] at h ⊢
        by_cases he : e.1 = k
        · by_cases hl : k < las.length
          · refine .inr ⟨e, List.mem_cons_self, he, ?_⟩
            rw [h, he]
            simp [hl]
          · refine .inl ?_
            rw [h, he]
            simp [List.getElem?_eq_none (show las.length ≤ k by omega), List.getElem?_eq_none (show (las.set k e.2).length ≤ k by simp; omega)]
        · refine .inl ?_
          rw [h, List.getElem?_set_ne he]
      · rw [if_neg hk] at h ⊢
        exact .inl h
    · exact .inr ⟨x, List.mem_cons_of_mem _ hx, h1, h2⟩

/-- Where a write of the script may have left sector k of the cut disk. -/
def Wrote (ops : List OpD) (at_ : Int) (i k : Nat) (bl : List Int) : Prop := ∃ j d, j < i ∧ ops[j]? = some d ∧ d.kind = 2 ∧ d.n = (k : Int) ∧ d.bl = bl ∧ at_ < (j : Int)
/-- A bay of one slot behind i operations of BayCuts' loop. -/
structure Cuts (ops : List OpD) (at_ : Int) (m i : Nat) (B : By) : Prop where
  n : B.n = 1
  calm : B.Calm
  d0 : ∃ D, B.dev 0 = some ⟨D, false, 0⟩ ∧ D.failed = false ∧ D.las.length = m ∧ (∀ s ∈ D.las, s.length = 128) ∧ (∀ e ∈ D.cache, e.2.length = 128) ∧
    ∀ e ∈ D.cache, ∃ j d, j < i ∧ ops[j]? = some d ∧ d.kind = 2 ∧ d.n = (e.1 : Int) ∧ d.bl = e.2 ∧ (at_ < (i : Int) → at_ < (j : Int))
  d2 : B.dev 2 = none

theorem is01 {B : By} (h : B.n = 1) : B.is 0 := ⟨by omega, by rw [h]; decide⟩
theorem cuts_op {ops : List OpD} {at_ : Int} {m i i' : Nat} {B : By} (h : Cuts ops at_ m i B) (ci : Nat) (g : Dk → Dk)
    (hg : ∀ D : Dk, D.failed = false → D.las.length = m → (∀ s ∈ D.las, s.length = 128) → (∀ e ∈ D.cache, e.2.length = 128) → (∀ e ∈ D.cache, ∃ j d, j < i ∧ ops[j]? = some d ∧ d.kind = 2 ∧ d.n = (e.1 : Int) ∧ d.bl = e.2 ∧ (at_ < (i : Int) → at_ < (j : Int))) →
      (g D).failed = false ∧ (g D).las.length = m ∧ (∀ s ∈ (g D).las, s.length = 128) ∧ (∀ e ∈ (g D).cache, e.2.length = 128) ∧ (∀ e ∈ (g D).cache, ∃ j d, j < i' ∧ ops[j]? = some d ∧ d.kind = 2 ∧ d.n = (e.1 : Int) ∧ d.bl = e.2 ∧ (at_ < (i' : Int) → at_ < (j : Int)))) : Cuts ops at_ m i' (B.op 0 ci g) := by
  obtain ⟨D, h1, h2, h3, h4, h5, h6⟩ := h.d0
  have e : B.op 0 ci g = (B.tick ci).setDev 0 (some ⟨g D, false, 0⟩) := by
    rw [calm_op h.calm (is01 h.n) (e := ⟨D, false, 0⟩) h1]
    rfl
  rw [e]
  exact ⟨h.n, Calm.tick h.calm _ _ _, ⟨g D, by simp [By.setDev], hg D h2 h3 h4 h5 h6⟩, by simpa [By.setDev, put, By.tick] using h.d2⟩
theorem write_in (D : Dk) (a : Int) (b : List Int) (e : Nat × List Int) (he : e ∈ (D.write a b).cache) : e ∈ D.cache ∨ (e.2.length = 128 ∧ (e.1 : Int) = a ∧ e.2 = b) := by
  unfold Dk.write at he
  split at he
  · rename_i hc
    have hc0 : D.code a = 0 ∧ b.length = 128 := by
      unfold Dk.wcode at hc
      split at hc
      · split at hc
        · rename_i x c; exact ⟨x, c⟩
        · cases hc
      · rename_i x; exact absurd hc x
    obtain ⟨-, k1, -⟩ := Dk.code_zero hc0.1
    rcases List.mem_append.1 he with he | he
    · exact .inl he
    · obtain rfl : e = (a.toNat, b) := by simpa using he
      exact .inr ⟨hc0.2, by simp only; omega, rfl⟩
  · exact .inl he
/-- A write, where the flush is not at its place: or before the flush at its place. -/
theorem cuts_write {ops : List OpD} {at_ : Int} {m i : Nat} {B : By} (h : Cuts ops at_ m i B) {d : OpD} (hd : ops[i]? = some d) (hk : d.kind = 2) (hat : at_ ≠ i) : Cuts ops at_ m (i + 1) (B.op 0 4 (fun D => D.write d.n d.bl)) :=
  cuts_op h 4 _ fun D h2 h3 h4 h5 h6 => by
    refine ⟨(D.write_failed _ _).trans h2, by rw [write_las]; exact h3, by rw [write_las]; exact h4, fun e he => ?_, fun e he => ?_⟩
    · rcases write_in D _ _ e he with he | he
      · exact h5 e he
      · exact he.1
    · rcases write_in D _ _ e he with he | ⟨_, h7, h8⟩
      · obtain ⟨j, x, a1, a2, a3, a4, a5, a6⟩ := h6 e he
        exact ⟨j, x, by omega, a2, a3, a4, a5, fun hl => a6 (by omega)⟩
      · exact ⟨i, d, by omega, hd, hk, h7.symm, h8.symm, fun hl => by omega⟩
theorem cuts_write_as {ops : List OpD} {at_ : Int} {m i : Nat} {B : By} (h : Cuts ops at_ m i B) (a : Int) (b : List Int) :
    ∃ D, (B.op 0 4 (fun D => D.write a b)).dev 0 = some ⟨D, false, 0⟩ ∧ D.failed = false ∧ D.las.length = m ∧ (∀ s ∈ D.las, s.length = 128) ∧ (∀ e ∈ D.cache, e.2.length = 128) ∧ (B.op 0 4 (fun D => D.write a b)).n = 1 ∧ (B.op 0 4 (fun D => D.write a b)).Calm ∧ (B.op 0 4 (fun D => D.write a b)).dev 2 = none := by
  obtain ⟨D, h1, h2, h3, h4, h5, h6⟩ := h.d0
  have e : B.op 0 4 (fun D => D.write a b) = (B.tick 4).setDev 0 (some ⟨D.write a b, false, 0⟩) := by
    rw [calm_op h.calm (is01 h.n) (e := ⟨D, false, 0⟩) h1]
    rfl
  rw [e]
  refine ⟨D.write a b, by simp [By.setDev], (D.write_failed _ _).trans h2, by rw [write_las]; exact h3, by rw [write_las]; exact h4, fun e he => ?_, h.n, Calm.tick h.calm _ _ _, by simpa [By.setDev, put, By.tick] using h.d2⟩
  rcases write_in D _ _ e he with he | he
  · exact h5 e he
  · exact he.1
/-- A bay of one slot with a disk of m sectors: what a flush makes of it. -/
theorem flush_one {ops : List OpD} {at_ : Int} {m i : Nat} {B : By} (hn : B.n = 1) (hc : B.Calm) (h2 : B.dev 2 = none) {D : Dk} (h1 : B.dev 0 = some ⟨D, false, 0⟩) (hf : D.failed = false) (hl : D.las.length = m) (hs : ∀ s ∈ D.las, s.length = 128) (he : ∀ e ∈ D.cache, e.2.length = 128) : Cuts ops at_ m i (B.op 0 5 Dk.flush) := by
  have e : B.op 0 5 Dk.flush = (B.tick 5).setDev 0 (some ⟨D.flush, false, 0⟩) := by
    rw [calm_op hc (is01 hn) (e := ⟨D, false, 0⟩) h1]
    rfl
  have ef : D.flush = D.settle (fun _ => true) := by unfold Dk.flush; rw [hf]; rfl
  rw [e]
  exact ⟨hn, Calm.tick hc _ _ _, ⟨D.flush, by simp [By.setDev], by rw [D.flush_failed]; exact hf, by rw [ef]; show (settled _ _ _ _).length = m; rw [length_settled]; exact hl, by rw [ef]; exact sec_settled _ _ _ _ he hs, by rw [ef]; intro e he; exact absurd he (by simp [Dk.settle]), by rw [ef]; intro e he; exact absurd he (by simp [Dk.settle])⟩, by simpa [By.setDev, put, By.tick] using h2⟩
theorem cuts_skip {ops : List OpD} {at_ : Int} {m i : Nat} {B : By} (h : Cuts ops at_ m i B) (hat : at_ ≠ i) : Cuts ops at_ m (i + 1) B := by
  obtain ⟨D, h1, h2, h3, h4, h5, h6⟩ := h.d0
  refine ⟨h.n, h.calm, ⟨D, h1, h2, h3, h4, h5, fun e he => ?_⟩, h.d2⟩
  obtain ⟨j, x, a1, a2, a3, a4, a5, a6⟩ := h6 e he
  exact ⟨j, x, by omega, a2, a3, a4, a5, fun hl => a6 (by omega)⟩
theorem cuts_flush {ops : List OpD} {at_ : Int} {m i i' : Nat} {B : By} (h : Cuts ops at_ m i B) : Cuts ops at_ m i' (B.op 0 5 Dk.flush) := by
  obtain ⟨D, h1, h2, h3, h4, h5, h6⟩ := h.d0
  exact flush_one h.n h.calm h.d2 h1 h2 h3 h4 h5
theorem cuts_write_flush {ops : List OpD} {at_ : Int} {m i i' : Nat} {B : By} (h : Cuts ops at_ m i B) (a : Int) (b : List Int) : Cuts ops at_ m i' ((B.op 0 4 (fun D => D.write a b)).op 0 5 Dk.flush) := by
  obtain ⟨D, h1, h2, h3, h4, h5, hn, hc, hd⟩ := cuts_write_as h a b
  exact flush_one hn hc hd h1 h2 h3 h4 h5

theorem flatten_sector : ∀ (l : List (List Int)) (k : Nat), (∀ s ∈ l, s.length = 128) → k < l.length → (l.flatten.drop (128 * k)).take 128 = l.getD k []
  | [], k, _, h => by simp at h
  | x :: r, 0, hs, _ => by
    have : x.length = 128 := hs x List.mem_cons_self
    simp [List.flatten_cons, ← this]
  | x :: r, k + 1, hs, h => by
    have hx : x.length = 128 := hs x List.mem_cons_self
    have := flatten_sector r k (fun s h => hs s (List.mem_cons_of_mem _ h)) (by simpa using h)
    rw [List.flatten_cons, show 128 * (k + 1) = x.length + 128 * k by omega, List.drop_append, List.drop_of_length_le (by omega), List.nil_append, Nat.add_sub_cancel_left, this]
    simp
theorem flatten_length : ∀ (l : List (List Int)), (∀ s ∈ l, s.length = 128) → l.flatten.length = 128 * l.length
  | [], _ => rfl
  | x :: r, hs => by
    rw [List.flatten_cons, List.length_append, flatten_length r (fun s h => hs s (List.mem_cons_of_mem _ h)), hs x List.mem_cons_self, List.length_cons]; omega
def sector (l : List Int) (k : Nat) : List Int := (l.drop (128 * k)).take 128

/-- A cut of a bay of one slot without a disk that is coming. -/
theorem cutg_one {B : By} (hn : B.n = 1) (h2 : B.dev 2 = none) {D : Dk} (h1 : B.dev 0 = some ⟨D, false, 0⟩) (kl : List (Value × List Bool)) :
    (B.cutg kl).n = 1 ∧ (B.cutg kl).dev 2 = none ∧ (B.cutg kl).dev 0 = some ⟨D.crash (keepsFor kl 0), false, 0⟩ := by
  have q : ((B.crashAt kl 0).dev 2 = none) ∧ (B.crashAt kl 0).dev 0 = some ⟨D.crash (keepsFor kl 0), false, 0⟩ := by
    unfold By.crashAt
    rw [h1]
    exact ⟨by simpa [By.setDev, put] using h2, by simp [By.setDev]⟩
  have e : B.cutgTo kl 1 = B.crashAt kl 0 := by
    rw [By.cutgTo, By.cutgTo]
    unfold By.comeAt
    rw [show 0 * 3 + 2 = 2 from rfl, q.1]
  refine ⟨(cutgTo_n B kl _).trans hn, ?_, ?_⟩
  · show (B.cutgTo kl B.n).dev 2 = none
    rw [hn, e]; exact q.1
  · show (B.cutgTo kl B.n).dev 0 = _
    rw [hn, e]; exact q.2
theorem one_image {B : By} (hn : B.n = 1) {D : Dk} (h1 : B.dev 0 = some ⟨D, false, 0⟩) (hf : D.failed = false) : B.image 0 = D.las.flatten ∧ B.tcode 0 = 0 ∧ B.pending 0 = D.pending := by
  have hi : B.in 0 = some ⟨D, false, 0⟩ := by unfold By.in; rw [if_pos (is01 hn)]; exact h1
  refine ⟨?_, ?_, ?_⟩
  · unfold By.image; rw [hi]; simp only [Dk.image, hf]; rfl
  · unfold By.tcode; rw [if_pos (is01 hn), show (0 : Int).toNat * 3 = 0 from rfl, h1]
  · unfold By.pending; rw [hi]

/-- What the two cuts answer: the images la (ahead) and lw (was, now); each sector of lw is la's or a write's. -/
structure CutEnd (ops : List OpD) (at_ : Int) (m : Nat) (la lw : List Int) : Prop where
  hla : la.length = 128 * m
  hlw : lw.length = 128 * m
  sec : ∀ k, k < m → sector lw k = sector la k ∨ (at_ < ops.length ∧ Wrote ops at_ ops.length k (sector lw k))

theorem cuts_end {ops : List OpD} {at_ : Int} {m : Nat} {B : By} (h : Cuts ops at_ m ops.length B) (hat : at_ < ops.length ∨ ∀ D, B.dev 0 = some ⟨D, false, 0⟩ → D.cache = []) (k1 k2 : List (Value × List Bool)) :
    ∃ la lw, CutEnd ops at_ m la lw ∧ (B.image 0 = la ∧ B.tcode 0 = 0) ∧ ((B.cutg k1).image 0 = lw ∧ (B.cutg k1).tcode 0 = 0) ∧ (((B.cutg k1).cutg k2).image 0 = lw ∧ ((B.cutg k1).cutg k2).tcode 0 = 0 ∧ ((B.cutg k1).cutg k2).pending 0 = []) := by
  obtain ⟨D, h1, h2, h3, h4, h5, h6⟩ := h.d0
  obtain ⟨n1, c1, e1⟩ := cutg_one h.n h.d2 h1 k1
  obtain ⟨n2, c2, e2⟩ := cutg_one n1 c1 e1 k2
  have q : (D.crash (keepsFor k1 0)).crash (keepsFor k2 0) = D.crash (keepsFor k1 0) := rfl
  rw [q] at e2
  have i0 := one_image h.n h1 h2
  have i1 := one_image n1 e1 (by exact h2)
  have i2 := one_image n2 e2 (by exact h2)
  have hs : ∀ s ∈ (D.crash (keepsFor k1 0)).las, s.length = 128 := sec_settled _ _ _ _ h5 h4
  have hl : (D.crash (keepsFor k1 0)).las.length = m := (length_settled _ _ _ _).trans h3
  refine ⟨_, _, ⟨?_, ?_, fun k hk => ?_⟩, ⟨i0.1, i0.2.1⟩, ⟨i1.1, i1.2.1⟩, ⟨i2.1, i2.2.1, i2.2.2⟩⟩
  · rw [flatten_length _ h4, h3]
  · rw [flatten_length _ hs, hl]
  · unfold sector
    rw [flatten_sector _ k hs (by omega), flatten_sector _ k h4 (by omega)]
    rcases settled_sector (keepOf (keepsFor k1 0)) k D.cache 0 D.las with hx | ⟨e, he, hx1, hx2⟩
    · refine .inl ?_
      rw [List.getD_eq_getElem?_getD, List.getD_eq_getElem?_getD]
      exact congrArg (fun o => o.getD []) hx
    · refine .inr ?_
      have hat' : at_ < ops.length := by
        rcases hat with hat | hat
        · exact hat
        · rw [hat D h1] at he; cases he
      obtain ⟨j, x, a1, a2, a3, a4, a5, a6⟩ := h6 e he
      refine ⟨hat', j, x, a1, a2, a3, by rw [a4, hx1], ?_, a6 hat'⟩
      rw [a5, List.getD_eq_getElem?_getD]
      exact (congrArg (fun o => o.getD []) hx2).symm
end Go.Proofs.Ytghnbbpoaeheaaa
