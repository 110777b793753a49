/- A bay as plain data, and how it lies in memory. -/
import Derived.Test.YtghnbbpoaeheaaaDisk7
namespace Go.Proofs.Ytghnbbpoaeheaaa
open Go.RowKit

/-- A disk that may be worn. -/
structure Dev where
  disk : Dk
  worn : Bool
  left : Int
/-- A bay: of slot k the places 3k (in it), 3k + 1 (aside), 3k + 2 (coming); its light, its trip, its counts. -/
structure By where
  n : Nat
  dev : Nat → Option Dev
  dark : Bool
  trip : Int
  cr : Int
  cw : Int
  cf : Int

def put {α : Type} (f : Nat → α) (i : Nat) (x : α) : Nat → α := fun j => if j = i then x else f j
@[simp] theorem put_same {α : Type} (f : Nat → α) (i : Nat) (x : α) : put f i x i = x := by simp [put]
theorem put_other {α : Type} (f : Nat → α) {i j : Nat} (x : α) (h : j ≠ i) : put f i x j = f j := by simp [put, h]
def By.setDev (B : By) (i : Nat) (x : Option Dev) : By := { B with dev := put B.dev i x }

structure By.Ok (B : By) : Prop where
  pos : 1 ≤ B.n
  le : B.n ≤ 17
  out : ∀ j, B.n * 3 ≤ j → B.dev j = none
  left : ∀ j d, B.dev j = some d → 0 ≤ d.left ∧ d.left ≤ 9223372036854775807
  trip : -1 ≤ B.trip ∧ B.trip ≤ 9223372036854775807

/-- A device lies in memory behind a pointer. -/
def DevAt (w : World) (v : Value) (d : Option Dev) (F : Nat → Prop) : Prop :=
  match d with
  | none => v = .pointer none ∧ ∀ x, ¬ F x
  | some d => ∃ bv bd Fd, v = .pointer (some ⟨bv, 0, none⟩) ∧ w.heap[bv]? = some (.cells #[.pointer (some ⟨bd, 0, none⟩), .bool d.worn, .int .i64 d.left] 133 (0, 0)) ∧ DiskAt w bd d.disk Fd ∧ ¬ Fd bv ∧ ∀ x, F x ↔ x = bv ∨ Fd x

structure BayLies (w : World) (b : Nat) (B : By) (F : Nat → Prop) (bs : Nat) (ptr : Nat → Value) (Fs : Nat → Nat → Prop) : Prop where
  hb : w.heap[b]? = some (.cells #[.slice (some ⟨bs, 0, none⟩) B.n B.n, .bool B.dark, .int .i64 B.trip, .int .i64 B.cr, .int .i64 B.cw, .int .i64 B.cf] 130 (0, 0))
  hs : w.heap[bs]? = some (.cells ((List.range (B.n * 3)).map ptr).toArray 135 (0, 0))
  dev : ∀ j, DevAt w (ptr j) (B.dev j) (Fs j)
  apart : ∀ i j x, i ≠ j → Fs i x → ¬ Fs j x
  ownb : ∀ j, ¬ Fs j b
  owns : ∀ j, ¬ Fs j bs
  hF : ∀ x, F x ↔ x = b ∨ x = bs ∨ ∃ j, Fs j x
  ok : B.Ok
def BayAt (w : World) (b : Nat) (B : By) (F : Nat → Prop) : Prop := ∃ bs ptr Fs, BayLies w b B F bs ptr Fs

theorem DevAt.keep {w w' : World} {v : Value} {d : Option Dev} {F G : Nat → Prop} (h : DevAt w v d F) (hk : Keep G w w') (hG : ∀ x, F x → ¬ G x) : DevAt w' v d F := by
  cases d with
  | none => exact h
  | some d =>
    obtain ⟨bv, bd, Fd, h1, h2, h3, h4, h5⟩ := h
    exact ⟨bv, bd, Fd, h1, hk.at h2 (hG _ ((h5 _).2 (.inl rfl))), h3.keep hk (fun x hx => hG x ((h5 x).2 (.inr hx))), h4, h5⟩
theorem DevAt.lt {w : World} {v : Value} {d : Option Dev} {F : Nat → Prop} (h : DevAt w v d F) : ∀ x, F x → x < w.heap.size := by
  cases d with
  | none => intro x hx; exact absurd hx (h.2 x)
  | some d =>
    obtain ⟨bv, bd, Fd, h1, h2, h3, h4, h5⟩ := h
    intro x hx
    rcases (h5 x).1 hx with rfl | hx
    · exact lt_of_heap h2
    · exact h3.lt x hx
theorem DevAt.none_form {w : World} {v : Value} {F : Nat → Prop} (h : DevAt w v none F) : v = .pointer none := h.1
theorem DevAt.some_form {w : World} {v : Value} {d : Dev} {F : Nat → Prop} (h : DevAt w v (some d) F) : ∃ bv bd, v = .pointer (some ⟨bv, 0, none⟩) ∧ w.cell? ⟨bv, 0, none⟩ = some (.pointer (some ⟨bd, 0, none⟩)) ∧ bv < w.heap.size := by
  obtain ⟨bv, bd, Fd, h1, h2, _⟩ := h
  exact ⟨bv, bd, h1, cell_at h2 0 rfl, lt_of_heap h2⟩

section
variable {w : World} {b : Nat} {B : By} {F : Nat → Prop} {bs : Nat} {ptr : Nat → Value} {Fs : Nat → Nat → Prop}
theorem BayLies.lt (h : BayLies w b B F bs ptr Fs) : ∀ x, F x → x < w.heap.size := by
  intro x hx
  rcases (h.hF x).1 hx with rfl | rfl | ⟨j, hj⟩
  · exact lt_of_heap h.hb
  · exact lt_of_heap h.hs
  · exact (h.dev j).lt x hj
theorem BayLies.keep (h : BayLies w b B F bs ptr Fs) {w' : World} {G : Nat → Prop} (hk : Keep G w w') (hG : ∀ x, F x → ¬ G x) : BayLies w' b B F bs ptr Fs :=
  ⟨hk.at h.hb (hG _ ((h.hF _).2 (.inl rfl))), hk.at h.hs (hG _ ((h.hF _).2 (.inr (.inl rfl)))), fun j => (h.dev j).keep hk (fun x hx => hG x ((h.hF x).2 (.inr (.inr ⟨j, hx⟩)))), h.apart, h.ownb, h.owns, h.hF, h.ok⟩
theorem BayLies.slot (h : BayLies w b B F bs ptr Fs) {j : Nat} (hj : j < B.n * 3) : w.cell? ⟨bs, j, none⟩ = some (ptr j) :=
  cell_at h.hs j (by simp [hj])
theorem BayLies.head (h : BayLies w b B F bs ptr Fs) : w.cell? ⟨b, 0, none⟩ = some (.slice (some ⟨bs, 0, none⟩) B.n B.n) ∧ w.cell? ⟨b, 1, none⟩ = some (.bool B.dark) ∧ w.cell? ⟨b, 2, none⟩ = some (.int .i64 B.trip) ∧
    w.cell? ⟨b, 3, none⟩ = some (.int .i64 B.cr) ∧ w.cell? ⟨b, 4, none⟩ = some (.int .i64 B.cw) ∧ w.cell? ⟨b, 5, none⟩ = some (.int .i64 B.cf) :=
  ⟨cell_at h.hb 0 rfl, cell_at h.hb 1 rfl, cell_at h.hb 2 rfl, cell_at h.hb 3 rfl, cell_at h.hb 4 rfl, cell_at h.hb 5 rfl⟩
theorem BayAt.lt (h : BayAt w b B F) : ∀ x, F x → x < w.heap.size := by obtain ⟨_, _, _, h⟩ := h; exact h.lt
theorem BayAt.keep (h : BayAt w b B F) {w' : World} {G : Nat → Prop} (hk : Keep G w w') (hG : ∀ x, F x → ¬ G x) : BayAt w' b B F := by obtain ⟨bs, ptr, Fs, h⟩ := h; exact ⟨bs, ptr, Fs, h.keep hk hG⟩
theorem BayAt.ok (h : BayAt w b B F) : B.Ok := by obtain ⟨_, _, _, h⟩ := h; exact h.ok
theorem BayAt.head (h : BayAt w b B F) : ∃ bs : Nat, w.cell? ⟨b, 0, none⟩ = some (.slice (some ⟨bs, 0, none⟩) B.n B.n) ∧ w.cell? ⟨b, 1, none⟩ = some (.bool B.dark) ∧ w.cell? ⟨b, 2, none⟩ = some (.int .i64 B.trip) ∧
    w.cell? ⟨b, 3, none⟩ = some (.int .i64 B.cr) ∧ w.cell? ⟨b, 4, none⟩ = some (.int .i64 B.cw) ∧ w.cell? ⟨b, 5, none⟩ = some (.int .i64 B.cf) := by
  obtain ⟨bs, _, _, h⟩ := h; exact ⟨bs, h.head⟩

/-- A device's place is given another device (or none): its blocks are those of the old one, or new, and no others have turned. -/
theorem BayLies.redev (h : BayLies w b B F bs ptr Fs) {w' : World} {i : Nat} {d' : Option Dev} {F' : Nat → Prop} (hk : Keep (Fs i) w w') (hd : DevAt w' (ptr i) d' F') (hF' : ∀ x, F' x → Fs i x ∨ w.heap.size ≤ x)
    (hi : i < B.n * 3) (hl : ∀ d, d' = some d → 0 ≤ d.left ∧ d.left ≤ 9223372036854775807) :
    BayLies w' b (B.setDev i d') (fun x => x = b ∨ x = bs ∨ ∃ j, put Fs i F' j x) bs ptr (put Fs i F') := by
  have hFx : ∀ j x, j ≠ i → Fs j x → x < w.heap.size ∧ ¬ Fs i x := fun j x hj hx => ⟨(h.dev j).lt x hx, h.apart j i x hj hx⟩
  refine ⟨hk.at h.hb (h.ownb i), hk.at h.hs (h.owns i), fun j => ?_, fun a c x hac ha hc => ?_, fun j => ?_, fun j => ?_, fun x => Iff.rfl, ⟨h.ok.pos, h.ok.le, fun j hj => ?_, fun j d hd' => ?_, h.ok.trip⟩⟩
  · by_cases hj : j = i
    · subst hj; simpa [By.setDev] using hd
    · simp only [By.setDev, put_other _ _ hj]
      exact (h.dev j).keep hk (fun x hx => h.apart j i x hj hx)
  · by_cases h1 : a = i
    · subst h1
      have h2 : c ≠ a := Ne.symm hac
      rw [put_same] at ha
      rw [put_other _ _ h2] at hc
      obtain ⟨hx1, hx2⟩ := hFx c x h2 hc
      rcases hF' x ha with hx | hx
      · exact hx2 hx
      · omega
    · rw [put_other _ _ h1] at ha
      by_cases h2 : c = i
      · subst h2
        rw [put_same] at hc
        obtain ⟨hx1, hx2⟩ := hFx a x h1 ha
        rcases hF' x hc with hx | hx
        · exact hx2 hx
        · omega
      · rw [put_other _ _ h2] at hc
        exact h.apart a c x hac ha hc
  · by_cases hj : j = i
    · subst hj; rw [put_same]; intro hx
      rcases hF' _ hx with hx | hx
      · exact h.ownb _ hx
      · have := lt_of_heap h.hb; omega
    · rw [put_other _ _ hj]; exact h.ownb j
  · by_cases hj : j = i
    · subst hj; rw [put_same]; intro hx
      rcases hF' _ hx with hx | hx
      · exact h.owns _ hx
      · have := lt_of_heap h.hs; omega
    · rw [put_other _ _ hj]; exact h.owns j
  · have : j ≠ i := by simp only [By.setDev] at hj; omega
    simp only [By.setDev, put_other _ _ this]; exact h.ok.out j hj
  · by_cases hj : j = i
    · subst hj; simp [By.setDev] at hd'; exact hl d hd'
    · simp only [By.setDev, put_other _ _ hj] at hd'; exact h.ok.left j d hd'
theorem BayLies.redev_F {w' : World} (h : BayLies w b B F bs ptr Fs) {i : Nat} {F' : Nat → Prop} (hF' : ∀ x, F' x → Fs i x ∨ w.heap.size ≤ x) :
    ∀ x, (x = b ∨ x = bs ∨ ∃ j, put Fs i F' j x) → F x ∨ w.heap.size ≤ x := by
  rintro x (rfl | rfl | ⟨j, hj⟩)
  · exact .inl ((h.hF _).2 (.inl rfl))
  · exact .inl ((h.hF _).2 (.inr (.inl rfl)))
  · by_cases e : j = i
    · subst e; rw [put_same] at hj
      rcases hF' x hj with hx | hx
      · exact .inl ((h.hF x).2 (.inr (.inr ⟨_, hx⟩)))
      · exact .inr hx
    · rw [put_other _ _ e] at hj
      exact .inl ((h.hF x).2 (.inr (.inr ⟨j, hj⟩)))
/-- Its head is written. -/
theorem BayLies.rehead (h : BayLies w b B F bs ptr Fs) {w' : World} (hk : Keep (· = b) w w') {B' : By} (hn : B'.n = B.n) (hd : B'.dev = B.dev) (ht : -1 ≤ B'.trip ∧ B'.trip ≤ 9223372036854775807)
    (hb : w'.heap[b]? = some (.cells #[.slice (some ⟨bs, 0, none⟩) B.n B.n, .bool B'.dark, .int .i64 B'.trip, .int .i64 B'.cr, .int .i64 B'.cw, .int .i64 B'.cf] 130 (0, 0))) : BayLies w' b B' F bs ptr Fs := by
  have hne : bs ≠ b := ne_of_elem h.hs h.hb (by decide)
  have hs' := hk.at h.hs hne
  refine ⟨by rw [hn]; exact hb, by rw [hn]; exact hs', fun j => by rw [hd]; exact (h.dev j).keep hk (fun x hx e => h.ownb j (e ▸ hx)), h.apart, h.ownb, h.owns, h.hF, ⟨by rw [hn]; exact h.ok.pos, by rw [hn]; exact h.ok.le, by rw [hn, hd]; exact h.ok.out, by rw [hd]; exact h.ok.left, ht⟩⟩
end

/-- What an operation on a bay leaves: the bay B'; its blocks are those that it had, or new; no others have turned. -/
def BayPost (w : World) (b : Nat) (B' : By) (F : Nat → Prop) (w' : World) : Prop :=
  ∃ F', BayAt w' b B' F' ∧ Keep F w w' ∧ ∀ x, F' x → F x ∨ w.heap.size ≤ x
theorem BayPost.same {w : World} {b : Nat} {B : By} {F : Nat → Prop} (h : BayAt w b B F) : BayPost w b B F w := ⟨F, h, Keep.refl _ _, fun _ hx => .inl hx⟩

/-! ### at, in, there -/
def slotPtr (bs n : Nat) (k : Int) : Value := if 0 ≤ k ∧ k < n then .pointer (some ⟨bs, k.toNat * 3, none⟩) else .pointer none

section
variable {w : World} {b : Nat} {B : By} {F : Nat → Prop} {bs : Nat} {ptr : Nat → Value} {Fs : Nat → Nat → Prop}
theorem at_any (h : BayLies w b B F bs ptr Fs) (k : Int) : Calls Try.prog 92 #[.pointer (some ⟨b, 0, none⟩), .int .i64 k] w fun e w' => e = .returned (slotPtr bs B.n k) ∧ w = w' := by
  obtain ⟨h0, _⟩ := h.head
  have hle := h.ok.le
  generalize B.n = n at *
  clear h
  unfold slotPtr
  by_cases h1 : k < 0
  · rw [if_neg (by omega)]
    go_enter Try.func92, Try.ntmps92
    go_wp2
    go_ret
    exact ⟨rfl, rfl⟩
  · by_cases h2 : k < n
    · obtain ⟨i, rfl⟩ := Int.eq_ofNat_of_zero_le (show 0 ≤ k by omega)
      rw [if_pos (by omega)]
      have hi : i < n := by omega
      clear h1 h2
      go_enter Try.func92, Try.ntmps92
      go_wp2
      go_ret
      exact ⟨rfl, rfl⟩
    · rw [if_neg (by omega)]
      go_enter Try.func92, Try.ntmps92
      go_wp2
      go_ret
      exact ⟨rfl, rfl⟩
end
end Go.Proofs.Ytghnbbpoaeheaaa
