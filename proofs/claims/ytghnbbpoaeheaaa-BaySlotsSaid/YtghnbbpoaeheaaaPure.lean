/- What the bay's plain operations do, as plain data. -/
import Derived.Test.YtghnbbpoaeheaaaMany
namespace Go.Proofs.Ytghnbbpoaeheaaa

def opi (d : OpD) : Nat := if d.kind = 1 then 3 else if d.kind = 2 then 4 else 5
def opg (d : OpD) : Dk → Dk := if d.kind = 1 then id else if d.kind = 2 then (fun D => D.write d.n d.bl) else Dk.flush
def opc (d : OpD) : Dk → Int := if d.kind = 1 then (fun D => D.code d.n) else if d.kind = 2 then (fun D => D.wcode d.n d.bl.length) else Dk.fcode
def opl (d : OpD) : Dk → List Int := if d.kind = 1 then (fun D => D.read d.n) else fun _ => []
theorem plain_op (B : By) (d : OpD) : B.plain d = B.op d.slot (opi d) (opg d) := by
  unfold By.plain opi opg; split
  · rfl
  · split <;> rfl
theorem plain_code (B : By) (d : OpD) : B.plainc d = B.opcode d.slot (opc d) := by
  unfold By.plainc opc; split
  · rfl
  · split <;> rfl
theorem plain_list (B : By) (d : OpD) : B.plainl d = match B.reach d.slot with | none => [] | some e => opl d e.disk := by
  unfold By.plainl opl
  split
  · rfl
  · cases B.reach d.slot <;> rfl

theorem Dk.write_failed (D : Dk) (a : Int) (b : List Int) : (D.write a b).failed = D.failed := by unfold Dk.write; split <;> rfl
theorem Dk.flush_failed (D : Dk) : D.flush.failed = D.failed := by unfold Dk.flush; split <;> rfl
theorem opg_failed (d : OpD) (D : Dk) : (opg d D).failed = D.failed := by
  unfold opg; split
  · rfl
  · split
    · exact D.write_failed _ _
    · exact D.flush_failed
theorem opc_failed (d : OpD) {D : Dk} (h : D.failed = true) : opc d D = 2 := by
  unfold opc; split
  · simp [Dk.code, h]
  · split
    · simp [Dk.wcode, Dk.code, h]
    · simp [Dk.fcode, h]
theorem opl_failed (d : OpD) {D : Dk} (h : D.failed = true) : opl d D = [] := by
  unfold opl; split
  · simp [Dk.read, Dk.code, h]
  · rfl
theorem opg_cache (d : OpD) (D : Dk) : (opg d D).cache.length ≤ D.cache.length + 1 := by
  unfold opg; split
  · simp
  · split
    · show (D.write d.n d.bl).cache.length ≤ _
      unfold Dk.write; split <;> simp
    · unfold Dk.flush; split
      · simp
      · simp [Dk.settle]
theorem use_cache (d : Dev) : d.use.disk.cache.length ≤ d.disk.cache.length := by
  unfold Dev.use; split
  · split
    · simp [Dk.fail]
    · simp
  · simp

theorem opi_or (d : OpD) : opi d = 3 ∨ opi d = 4 ∨ opi d = 5 := by unfold opi; split; exact .inl rfl; split; exact .inr (.inl rfl); exact .inr (.inr rfl)
theorem By.Small.mono {B : By} {m m' : Int} (h : B.Small m) (hm : m ≤ m') : B.Small m' :=
  ⟨⟨h.cr.1, by have := h.cr.2; omega⟩, ⟨h.cw.1, by have := h.cw.2; omega⟩, ⟨h.cf.1, by have := h.cf.2; omega⟩, fun j d hd => by have := h.cl j d hd; omega⟩
theorem Small.tick {B : By} {m : Int} (h : B.Small m) (ci : Nat) : (B.tick ci).Small (m + 1) := by
  obtain ⟨h1, h2, h3, h4⟩ := h
  refine ⟨?_, ?_, ?_, fun j d hd => by have := h4 j d hd; omega⟩ <;> (simp only [By.tick]; split <;> omega)
theorem Small.setDev {B : By} {m : Int} (h : B.Small m) {i : Nat} {x : Option Dev} (hx : ∀ d, x = some d → (d.disk.cache.length : Int) ≤ m) : (B.setDev i x).Small m := by
  obtain ⟨h1, h2, h3, h4⟩ := h
  refine ⟨h1, h2, h3, fun j d hd => ?_⟩
  by_cases hj : j = i
  · subst hj; simp [By.setDev] at hd; exact hx d hd
  · simp only [By.setDev, put_other _ _ hj] at hd; exact h4 j d hd
theorem Small.start {B : By} {m : Int} (h : B.Small m) : B.start.Small m := by
  unfold By.start; split
  · exact ⟨h.cr, h.cw, h.cf, h.cl⟩
  · exact h
theorem Small.op {B : By} {m : Int} (h : B.Small m) (k : Int) (ci : Nat) (g : Dk → Dk) (hg : ∀ D, (g D).cache.length ≤ D.cache.length + 1) : (B.op k ci g).Small (m + 1) := by
  unfold By.op
  split
  · split
    · exact (Small.start h).mono (by omega)
    · split
      · exact Small.tick h ci
      · rename_i hk _ d hd
        refine Small.setDev (Small.tick h ci) fun e he => ?_
        obtain rfl := (Option.some.inj he).symm
        have h1 := hg d.use.disk
        have h2 := use_cache d
        have h3 : B.dev (k.toNat * 3) = some d := by have := hd; simp [By.in, hk] at this; exact this.2
        have h4 := h.cl _ d h3
        simp only
        omega
  · exact h.mono (by omega)
theorem Small.plain {B : By} {m : Int} (h : B.Small m) (d : OpD) : (B.plain d).Small (m + 1) := by
  rw [plain_op]; exact Small.op h _ _ _ (opg_cache d)

/-- A bay without a trip, with its light on: an operation on a disk in a slot. -/
structure By.Calm (B : By) : Prop where
  trip : B.trip = -1
  dark : B.dark = false
theorem By.Calm.start {B : By} (h : B.Calm) : B.start = B := by unfold By.start; rw [if_neg (by rw [h.trip]; decide)]
theorem calm_op {B : By} (h : B.Calm) {k : Int} (hk : B.is k) {e : Dev} (he : B.dev (k.toNat * 3) = some e) (ci : Nat) (g : Dk → Dk) :
    B.op k ci g = (B.tick ci).setDev (k.toNat * 3) (some { e.use with disk := g e.use.disk }) := by
  have h1 : B.in k = some e := by simpa [By.in, hk] using he
  unfold By.op
  rw [if_pos hk, h.start, h.dark, h1]
  rfl
theorem calm_code {B : By} (h : B.Calm) {k : Int} (hk : B.is k) {e : Dev} (he : B.dev (k.toNat * 3) = some e) (c : Dk → Int) : B.opcode k c = c e.use.disk := by
  have h1 : B.in k = some e := by simpa [By.in, hk] using he
  unfold By.opcode
  rw [if_pos hk, h.start, h.dark, h1]
  rfl
theorem calm_reach {B : By} (h : B.Calm) {k : Int} (hk : B.is k) {e : Dev} (he : B.dev (k.toNat * 3) = some e) : B.reach k = some e.use := by
  have h1 : B.in k = some e := by simpa [By.in, hk] using he
  unfold By.reach
  rw [if_pos hk, h.start, h.dark, h1]
  rfl

/-- Two bays of two slots, the second with a disk that wears: c operations have come to the first slot. -/
structure Wearing (n c : Int) (A B : By) : Prop where
  nA : A.n = 2
  nB : B.n = 2
  cA : A.Calm
  cB : B.Calm
  cnt : A.cr = B.cr ∧ A.cw = B.cw ∧ A.cf = B.cf
  d0 : ∃ D, A.dev 0 = some ⟨D, false, 0⟩ ∧ D.failed = false ∧ ((c ≤ n ∧ B.dev 0 = some ⟨D, true, n - c⟩) ∨ (n < c ∧ ∃ E l, B.dev 0 = some ⟨E, false, l⟩ ∧ E.failed = true))
  d1 : ∃ D, A.dev 3 = some ⟨D, false, 0⟩ ∧ B.dev 3 = some ⟨D, false, 0⟩ ∧ D.failed = false

theorem is_two {B : By} (hn : B.n = 2) {k : Int} (hk : k = 0 ∨ k = 1) : B.is k := by unfold By.is; rw [hn]; omega
theorem tick_cnt {A B : By} (h : A.cr = B.cr ∧ A.cw = B.cw ∧ A.cf = B.cf) (ci : Nat) : (A.tick ci).cr = (B.tick ci).cr ∧ (A.tick ci).cw = (B.tick ci).cw ∧ (A.tick ci).cf = (B.tick ci).cf := by
  obtain ⟨h1, h2, h3⟩ := h
  simp only [By.tick, h1, h2, h3, and_self]
theorem Calm.tick {B : By} (h : B.Calm) (ci : Nat) (i : Nat) (x : Option Dev) : ((B.tick ci).setDev i x).Calm := ⟨by simp [By.setDev, By.tick, h.trip], by simp [By.setDev, By.tick, h.dark]⟩

theorem wearing_one {n c : Int} {A B : By} (h : Wearing n c A B) (d : OpD) (hs : d.slot = 1) :
    Wearing n c (A.plain d) (B.plain d) ∧ A.plainc d = B.plainc d ∧ A.plainl d = B.plainl d := by
  obtain ⟨D, hA, hB, hf⟩ := h.d1
  have kA := is_two h.nA (.inr hs)
  have kB := is_two h.nB (.inr hs)
  have e3 : d.slot.toNat * 3 = 3 := by rw [hs]; rfl
  have hA' : A.dev (d.slot.toNat * 3) = some ⟨D, false, 0⟩ := by rw [e3]; exact hA
  have hB' : B.dev (d.slot.toNat * 3) = some ⟨D, false, 0⟩ := by rw [e3]; exact hB
  rw [plain_op, plain_op, plain_code, plain_code, plain_list, plain_list, calm_op h.cA kA hA', calm_op h.cB kB hB', calm_code h.cA kA hA', calm_code h.cB kB hB', calm_reach h.cA kA hA', calm_reach h.cB kB hB', e3]
  refine ⟨⟨h.nA, h.nB, Calm.tick h.cA _ _ _, Calm.tick h.cB _ _ _, tick_cnt h.cnt _, ?_, ?_⟩, rfl, rfl⟩
  · obtain ⟨D0, h1, h2, h3⟩ := h.d0
    refine ⟨D0, ?_, h2, ?_⟩
    · simpa [By.setDev, By.tick, put] using h1
    · rcases h3 with ⟨h3, h4⟩ | ⟨h3, E, l, h4, h5⟩
      · exact .inl ⟨h3, by simpa [By.setDev, By.tick, put] using h4⟩
      · exact .inr ⟨h3, E, l, by simpa [By.setDev, By.tick, put] using h4, h5⟩
  · exact ⟨opg d D, by simp [By.setDev, Dev.use], by simp [By.setDev, Dev.use], by rw [opg_failed]; exact hf⟩

theorem wearing_zero {n c : Int} {A B : By} (h : Wearing n c A B) (d : OpD) (hs : d.slot = 0) :
    Wearing n (c + 1) (A.plain d) (B.plain d) ∧ (n < c + 1 → B.plainc d = 2 ∧ B.plainl d = [] ∧ (B.plain d).has 0 = false) ∧
      (c + 1 ≤ n → A.plainc d = B.plainc d ∧ A.plainl d = B.plainl d ∧ (B.plain d).has 0 = true) := by
  obtain ⟨D, hA, hf, hB⟩ := h.d0
  have kA := is_two h.nA (.inl hs)
  have kB := is_two h.nB (.inl hs)
  have e3 : d.slot.toNat * 3 = 0 := by rw [hs]; rfl
  have hA' : A.dev (d.slot.toNat * 3) = some ⟨D, false, 0⟩ := by rw [e3]; exact hA
  have mk : ∀ (e : Dev) (c' : Int), B.dev 0 = some e → (c' ≤ n ∧ ({ e.use with disk := opg d e.use.disk } : Dev) = ⟨opg d D, true, n - c'⟩ ∨ n < c' ∧ ∃ E l, ({ e.use with disk := opg d e.use.disk } : Dev) = ⟨E, false, l⟩ ∧ E.failed = true) →
      Wearing n c' (A.plain d) (B.plain d) ∧ B.plainc d = opc d e.use.disk ∧ A.plainc d = opc d D ∧ B.plainl d = opl d e.use.disk ∧ A.plainl d = opl d D ∧ (B.plain d).has 0 = !(opg d e.use.disk).failed := fun e c' he hc => by
    have hB' : B.dev (d.slot.toNat * 3) = some e := by rw [e3]; exact he
    rw [plain_op, plain_op, plain_code, plain_code, plain_list, plain_list, calm_op h.cA kA hA', calm_op h.cB kB hB', calm_code h.cA kA hA', calm_code h.cB kB hB', calm_reach h.cA kA hA', calm_reach h.cB kB hB', e3]
    refine ⟨⟨h.nA, h.nB, Calm.tick h.cA _ _ _, Calm.tick h.cB _ _ _, tick_cnt h.cnt _, ⟨opg d D, by simp [By.setDev, Dev.use], by rw [opg_failed]; exact hf, ?_⟩, ?_⟩, rfl, rfl, rfl, rfl, ?_⟩
    · rcases hc with ⟨h3, h4⟩ | ⟨h3, E, l, h4, h5⟩
      · exact .inl ⟨h3, by simp only [By.setDev, put_same]; rw [h4]⟩
      · exact .inr ⟨h3, E, l, by simp only [By.setDev, put_same]; rw [h4], h5⟩
    · obtain ⟨D1, g1, g2, g3⟩ := h.d1
      exact ⟨D1, by simpa [By.setDev, By.tick, put] using g1, by simpa [By.setDev, By.tick, put] using g2, g3⟩
    · have hz : ((B.tick (opi d)).setDev 0 (some { e.use with disk := opg d e.use.disk })).is 0 := is_two (show _ = 2 from h.nB) (.inl rfl)
      unfold By.has By.in
      rw [if_pos hz]
      simp [By.setDev]
  rcases hB with ⟨hc, hB⟩ | ⟨hc, E, l, hB, hE⟩
  · by_cases hcn : c = n
    · have hu : (⟨D, true, n - c⟩ : Dev).use = ⟨D.fail, false, n - c⟩ := by simp [Dev.use, hcn]
      obtain ⟨m1, m2, m3, m4, m5, m6⟩ := mk _ (c + 1) hB (.inr ⟨by omega, _, _, by rw [hu], by rw [opg_failed]; rfl⟩)
      refine ⟨m1, fun _ => ⟨?_, ?_, ?_⟩, fun hx => by omega⟩
      · rw [m2, hu]; exact opc_failed d rfl
      · rw [m4, hu]; exact opl_failed d rfl
      · rw [m6, hu, opg_failed]; rfl
    · have hu : (⟨D, true, n - c⟩ : Dev).use = ⟨D, true, n - (c + 1)⟩ := by
        have : ¬ n - c = 0 := by omega
        simp only [Dev.use, if_true, this, if_false]
        congr 1; omega
      obtain ⟨m1, m2, m3, m4, m5, m6⟩ := mk _ (c + 1) hB (.inl ⟨by omega, by rw [hu]⟩)
      refine ⟨m1, fun hx => by omega, fun _ => ⟨?_, ?_, ?_⟩⟩
      · rw [m2, m3, hu]
      · rw [m4, m5, hu]
      · rw [m6, hu, opg_failed, hf]; rfl
  · have hu : (⟨E, false, l⟩ : Dev).use = ⟨E, false, l⟩ := by simp [Dev.use]
    obtain ⟨m1, m2, m3, m4, m5, m6⟩ := mk _ (c + 1) hB (.inr ⟨by omega, _, _, by rw [hu], by rw [opg_failed]; exact hE⟩)
    refine ⟨m1, fun _ => ⟨?_, ?_, ?_⟩, fun hx => by omega⟩
    · rw [m2, hu]; exact opc_failed d hE
    · rw [m4, hu]; exact opl_failed d hE
    · rw [m6, hu, opg_failed, hE]; rfl
theorem Wearing.has1 {n c : Int} {A B : By} (h : Wearing n c A B) : B.has 1 = true := by
  obtain ⟨D, _, hB, hf⟩ := h.d1
  unfold By.has By.in
  rw [if_pos (is_two h.nB (.inr rfl)), show (1 : Int).toNat * 3 = 3 from rfl, hB]
  simp [hf]
end Go.Proofs.Ytghnbbpoaeheaaa
