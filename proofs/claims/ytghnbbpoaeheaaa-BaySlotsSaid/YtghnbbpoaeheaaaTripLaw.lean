/- BayTrips: what its loop keeps, as plain data; more steps beside several bays. -/
import Derived.Test.YtghnbbpoaeheaaaCut
namespace Go.Proofs.Ytghnbbpoaeheaaa
open Go.RowKit

structure Tripping (n : Int) (m : Nat) (dark : Bool) (A B : By) : Prop where
  nA : A.n = m
  nB : B.n = m
  cA : A.Calm
  dev : A.dev = B.dev
  cnt : A.cr = B.cr ∧ A.cw = B.cw ∧ A.cf = B.cf
  lit : dark = false → B.dark = false ∧ B.trip = n - B.total ∧ B.total ≤ n
  out : dark = true → B.dark = true ∧ B.trip = -1

theorem tripping_dark {n : Int} {m : Nat} {dk : Bool} {A B : By} (h : Tripping n m dk A B) (d : OpD) (hk : 0 ≤ d.slot ∧ d.slot < m) (hd : dk = true ∨ B.total = n) :
    Tripping n m true A (B.plain d) ∧ B.plainc d = 50 ∧ B.plainl d = [] ∧ (B.plain d).dark = true := by
  have hk' : B.is d.slot := by unfold By.is; rw [h.nB]; exact hk
  have hst : B.start.dark = true ∧ B.start.trip = -1 ∧ B.start.n = B.n ∧ B.start.dev = B.dev ∧ B.start.cr = B.cr ∧ B.start.cw = B.cw ∧ B.start.cf = B.cf := by
    unfold By.start
    cases dk with
    | true =>
      obtain ⟨h1, h2⟩ := h.out rfl
      rw [if_neg (by rw [h2]; decide)]
      exact ⟨h1, h2, rfl, rfl, rfl, rfl, rfl⟩
    | false =>
      obtain ⟨h1, h2, h3⟩ := h.lit rfl
      have : B.total = n := hd.resolve_left (by decide)
      rw [if_pos (by omega)]
      exact ⟨rfl, rfl, rfl, rfl, rfl, rfl, rfl⟩
  obtain ⟨s1, s2, s3, s4, s5, s6, s7⟩ := hst
  have e : B.plain d = B.start := by rw [plain_op, By.op, if_pos hk', if_pos s1]
  refine ⟨?_, ?_, ?_, by rw [e]; exact s1⟩
  · rw [e]
    exact ⟨h.nA, s3.trans h.nB, h.cA, h.dev.trans s4.symm, (by rw [s5, s6, s7]; exact h.cnt), (fun h => by cases h), fun _ => ⟨s1, s2⟩⟩
  · rw [plain_code, By.opcode, if_pos hk', if_pos s1]
  · rw [plain_list, By.reach, if_pos hk', if_pos s1]

theorem tick_total (B : By) (d : OpD) : (B.tick (opi d)).total = B.total + 1 := by
  unfold By.total By.tick
  rcases opi_or d with h | h | h <;> rw [h] <;> simp <;> omega
theorem tripping_lit {n : Int} {m : Nat} {A B : By} (h : Tripping n m false A B) (d : OpD) (hk : 0 ≤ d.slot ∧ d.slot < m) (hd : B.total ≠ n) :
    Tripping n m false (A.plain d) (B.plain d) ∧ A.plainc d = B.plainc d ∧ A.plainl d = B.plainl d := by
  have kB : B.is d.slot := by unfold By.is; rw [h.nB]; exact hk
  have kA : A.is d.slot := by unfold By.is; rw [h.nA]; exact hk
  obtain ⟨h1, h2, h3⟩ := h.lit rfl
  have sB : B.start = B := by unfold By.start; rw [if_neg (by omega)]
  have sA := h.cA.start
  have dA := h.cA.dark
  have hin : A.in d.slot = B.in d.slot := by unfold By.in; rw [if_pos kA, if_pos kB, h.dev]
  have nd : ¬ (false = true) := by decide
  have key : ∀ x y : By, x.n = m → y.n = m → x.Calm → x.dev = y.dev → (x.cr = y.cr ∧ x.cw = y.cw ∧ x.cf = y.cf) → y.dark = false → y.trip = n - y.total → y.total ≤ n → Tripping n m false x y := fun x y a b c d e f g i => ⟨a, b, c, d, e, fun _ => ⟨f, g, i⟩, (fun h => by cases h)⟩
  have tt : (B.tick (opi d)).trip = n - (B.tick (opi d)).total := by
    rw [tick_total]
    show (if 0 < B.trip then B.trip - 1 else B.trip) = _
    rw [if_pos (by omega)]; omega
  have tle : (B.tick (opi d)).total ≤ n := by rw [tick_total]; omega
  rw [plain_op, plain_op, plain_code, plain_code, plain_list, plain_list]
  unfold By.op By.opcode By.reach
  rw [if_pos kA, if_pos kB, if_pos kA, if_pos kB, if_pos kA, if_pos kB, sA, sB, dA, h1, if_neg nd, if_neg nd, if_neg nd, if_neg nd, if_neg nd, if_neg nd, hin]
  cases hb : B.in d.slot with
  | none => exact ⟨key _ _ h.nA h.nB ⟨by simp [By.tick, h.cA.trip], dA⟩ h.dev (tick_cnt h.cnt _) h1 tt tle, rfl, rfl⟩
  | some e => exact ⟨key _ _ h.nA h.nB (Calm.tick h.cA _ _ _) (by simp only [By.setDev, By.tick, h.dev]) (tick_cnt h.cnt _) h1 tt tle, rfl, rfl⟩

theorem op_n (B : By) (k : Int) (ci : Nat) (g : Dk → Dk) : (B.op k ci g).n = B.n := by
  unfold By.op
  split
  · split
    · unfold By.start; split <;> rfl
    · split <;> rfl
  · rfl
/-- No disk is coming, none is aside. -/
def By.NoneComing (B : By) : Prop := ∀ j, j % 3 = 2 → B.dev j = none
theorem op_coming {B : By} (h : B.NoneComing) (k : Int) (ci : Nat) (g : Dk → Dk) : (B.op k ci g).NoneComing := by
  intro j hj
  unfold By.op
  split
  · split
    · unfold By.start; split <;> exact h j hj
    · split
      · exact h j hj
      · simp only [By.setDev, put_other _ _ (show j ≠ k.toNat * 3 by omega)]; exact h j hj
  · exact h j hj
theorem fresh_coming (l : List Int) (m : Nat) : (By.fresh l m).NoneComing := fun j hj => by unfold By.fresh; dsimp only; rw [if_neg (by omega)]
theorem plain_coming {B : By} (h : B.NoneComing) (d : OpD) : (B.plain d).NoneComing := by rw [plain_op]; exact op_coming h _ _ _

section
variable {W w : World} {m : Nat} {p : Nat → Nat} {B : Nat → By} {L : List (Value × List Int)}
theorem Many.dark (h : Many W w m p B L) (i : Nat) (hi : i < m) : Calls Try.prog 31 #[.pointer (some ⟨p i, 0, none⟩)] w fun e w' => e = .returned (.bool (B i).dark) ∧ w = w' := by
  obtain ⟨F, hb, hF, hst⟩ := h.step i hi
  exact dark_any hb
theorem Many.total (h : Many W w m p B L) (i : Nat) (hi : i < m) (hs : (B i).Small 1000000) : Calls Try.prog 32 #[.pointer (some ⟨p i, 0, none⟩)] w (Gives (ManyVal W w m p B L (.int .i64 (B i).total))) := by
  obtain ⟨F, hb, hF, hst⟩ := h.step i hi
  exact Gives.imp (total_any hb hs) fun v w' hg => ⟨hg.1, h.quiet hg.2, Local.noF hg.2⟩
theorem Many.image (h : Many W w m p B L) (i : Nat) (hi : i < m) (k : Int) : Calls Try.prog 34 #[.pointer (some ⟨p i, 0, none⟩), .int .i64 k] w (Gives (ManyRead W w m p B L ((B i).tcode k) ((B i).image k))) := by
  obtain ⟨F, hb, hF, hst⟩ := h.step i hi
  refine Gives.imp (bimage_any hb k) fun v w' hg => ?_
  obtain ⟨s, rfl, ho, hk⟩ := hg
  exact ⟨s, rfl, (h.quiet hk).mem (ho.mono (Nat.zero_le _)), Local.noF hk⟩
theorem Many.cut (h : Many W w m p B L) (i : Nat) (hi : i < m) (hs : (B i).Small 1000000) (hnc : (B i).NoneComing) {kv : Value} {kl : List (Value × List Bool)} (hk : KeepsAt W kv kl) :
    Calls Try.prog 33 #[.pointer (some ⟨p i, 0, none⟩), kv] w (Gives (ManyVal W w m p (put B i ((B i).cut kl)) L (.tuple #[]))) := by
  have ho := h.old
  obtain ⟨F, hb, hF, hst⟩ := h.step i hi
  exact Gives.imp (cut_any hb hF ho hk hs hnc) fun v w' hg => ⟨hg.1, hst _ _ hg.2⟩
def badCode (l : List Int) : Int := if 1 ≤ l.length ∧ l.length ≤ 17 then 40 else 1
def sizesOk (l : List Int) : Prop := 1 ≤ l.length ∧ l.length ≤ 17 ∧ ∀ s ∈ l, sizeOk s
theorem Many.new_ok (h : Many W w m p B L) {v : Value} {l : List Int} (hv : IntsAt W v l) (hok : sizesOk l) :
    Calls Try.prog 24 #[v] w (Gives fun r w' => ∃ b, r = .tuple #[.pointer (some ⟨b, 0, none⟩), .int .u16 0] ∧ Many W w' (m + 1) (put p m b) (put B m (By.fresh l l.length)) L) :=
  Gives.imp (h.new (hv.old h.old)) fun r w' hg => by
    rcases hg with ⟨_, _, _, hg⟩ | ⟨hn, _⟩
    · exact hg
    · rcases hn with hn | hn
      · exact absurd ⟨hok.1, hok.2.1⟩ hn
      · exact absurd hok.2.2 hn
theorem Many.new_bad (h : Many W w m p B L) {v : Value} {l : List Int} (hv : IntsAt W v l) (hok : ¬ sizesOk l) :
    Calls Try.prog 24 #[v] w (Gives fun r w' => r = .tuple #[.pointer none, .int .u16 (badCode l)] ∧ Many W w' m p B L) :=
  Gives.imp (h.new (hv.old h.old)) fun r w' hg => by
    rcases hg with ⟨h1, h2, h3, _⟩ | ⟨_, hg⟩
    · exact absurd ⟨h1, h2, h3⟩ hok
    · exact hg
end

/-- Behind a Cut two bays of the same devices have the same images. -/
theorem cut_image {A B : By} (hn : A.n = B.n) (hd : A.dev = B.dev) (kl : List (Value × List Bool)) (k : Int) : (A.cut kl).image k = (B.cut kl).image k ∧ (A.cut kl).tcode k = (B.cut kl).tcode k := by
  have e : (A.cut kl).dev = (B.cut kl).dev := by
    funext j
    show (A.cutTo kl A.n).dev j = (B.cutTo kl B.n).dev j
    rw [cutTo_dev, cutTo_dev, hn, hd]
  have en : (A.cut kl).n = (B.cut kl).n := by
    show (A.cutTo kl A.n).n = (B.cutTo kl B.n).n
    rw [(cutTo_head A kl _).1, (cutTo_head B kl _).1, hn]
  have key : ∀ x y : By, x.n = y.n → x.dev = y.dev → x.image k = y.image k ∧ x.tcode k = y.tcode k := by
    rintro ⟨n1, d1, _, _, _, _, _⟩ ⟨n2, d2, _, _, _, _, _⟩ h1 h2
    simp only at h1 h2
    subst h1
    subst h2
    exact ⟨rfl, rfl⟩
  exact key _ _ en e
end Go.Proofs.Ytghnbbpoaeheaaa
