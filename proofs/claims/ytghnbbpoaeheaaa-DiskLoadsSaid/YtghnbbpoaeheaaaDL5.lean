/- A bay as plain data, and how it lies in memory. -/
import Derived.Test.YtghnbbpoaeheaaaDL4
namespace Go.Proofs.Ytghnbbpoaeheaaa
open Go.RowKit

/-- A disk that may be worn. -/
structure Dev where
  disk : Dk
  worn : Bool
  left : Int
/-- A bay: of slot k the places 3k (in it), 3k + 1 (aside), 3k + 2 (coming); its light, its trip, its counts. -/
structure By where
  n : Nat
  dev : Nat → Option Dev
  dark : Bool
  trip : Int
  cr : Int
  cw : Int
  cf : Int

def put {α : Type} (f : Nat → α) (i : Nat) (x : α) : Nat → α := fun j => if j = i then x else f j
@[simp] theorem put_same {α : Type} (f : Nat → α) (i : Nat) (x : α) : put f i x i = x := by simp [put]
theorem put_other {α : Type} (f : Nat → α) {i j : Nat} (x : α) (h : j ≠ i) : put f i x j = f j := by simp [put, h]
def By.setDev (B : By) (i : Nat) (x : Option Dev) : By := { B with dev := put B.dev i x }

structure By.Ok (B : By) : Prop where
  pos : 1 ≤ B.n
  le : B.n ≤ 17
  out : ∀ j, B.n * 3 ≤ j → B.dev j = none
  left : ∀ j d, B.dev j = some d → 0 ≤ d.left ∧ d.left ≤ 9223372036854775807
  trip : -1 ≤ B.trip ∧ B.trip ≤ 9223372036854775807

/-- A device lies in memory behind a pointer. -/
def DevAt (w : World) (v : Value) (d : Option Dev) (F : Nat → Prop) : Prop :=
  match d with
  | none => v = .pointer none ∧ ∀ x, ¬ F x
  | some d => ∃ bv bd Fd, v = .pointer (some ⟨bv, 0, none⟩) ∧ w.heap[bv]? = some (.cells #[.pointer (some ⟨bd, 0, none⟩), .bool d.worn, .int .i64 d.left] 133 (0, 0)) ∧ DiskAt w bd d.disk Fd ∧ ¬ Fd bv ∧ ∀ x, F x ↔ x = bv ∨ Fd x

structure BayLies (w : World) (b : Nat) (B : By) (F : Nat → Prop) (bs : Nat) (ptr : Nat → Value) (Fs : Nat → Nat → Prop) : Prop where
  hb : w.heap[b]? = some (.cells #[.slice (some ⟨bs, 0, none⟩) B.n B.n, .bool B.dark, .int .i64 B.trip, .int .i64 B.cr, .int .i64 B.cw, .int .i64 B.cf] 130 (0, 0))
  hs : w.heap[bs]? = some (.cells ((List.range (B.n * 3)).map ptr).toArray 135 (0, 0))
  dev : ∀ j, DevAt w (ptr j) (B.dev j) (Fs j)
  apart : ∀ i j x, i ≠ j → Fs i x → ¬ Fs j x
  ownb : ∀ j, ¬ Fs j b
  owns : ∀ j, ¬ Fs j bs
  hF : ∀ x, F x ↔ x = b ∨ x = bs ∨ ∃ j, Fs j x
  ok : B.Ok
def BayAt (w : World) (b : Nat) (B : By) (F : Nat → Prop) : Prop := ∃ bs ptr Fs, BayLies w b B F bs ptr Fs

theorem DevAt.keep {w w' : World} {v : Value} {d : Option Dev} {F G : Nat → Prop} (h : DevAt w v d F) (hk : Keep G w w') (hG : ∀ x, F x → ¬ G x) : DevAt w' v d F := by
  cases d with
  | none => exact h
  | some d =>
    obtain ⟨bv, bd, Fd, h1, h2, h3, h4, h5⟩ := h
    exact ⟨bv, bd, Fd, h1, hk.at h2 (hG _ ((h5 _).2 (.inl rfl))), h3.keep hk (fun x hx => hG x ((h5 x).2 (.inr hx))), h4, h5⟩
theorem DevAt.lt {w : World} {v : Value} {d : Option Dev} {F : Nat → Prop} (h : DevAt w v d F) : ∀ x, F x → x < w.heap.size := by
  cases d with
  | none => intro x hx; exact absurd hx (h.2 x)
  | some d =>
    obtain ⟨bv, bd, Fd, h1, h2, h3, h4, h5⟩ := h
    intro x hx
    rcases (h5 x).1 hx with rfl | hx
    · exact lt_of_heap h2
    · exact h3.lt x hx
theorem DevAt.none_form {w : World} {v : Value} {F : Nat → Prop} (h : DevAt w v none F) : v = .pointer none := h.1
theorem DevAt.some_form {w : World} {v : Value} {d : Dev} {F : Nat → Prop} (h : DevAt w v (some d) F) : ∃ bv bd, v = .pointer (some ⟨bv, 0, none⟩) ∧ w.cell? ⟨bv, 0, none⟩ = some (.pointer (some ⟨bd, 0, none⟩)) ∧ bv < w.heap.size := by
  obtain ⟨bv, bd, Fd, h1, h2, _⟩ := h
  exact ⟨bv, bd, h1, cell_at h2 0 rfl, lt_of_heap h2⟩

section
variable {w : World} {b : Nat} {B : By} {F : Nat → Prop} {bs : Nat} {ptr : Nat → Value} {Fs : Nat → Nat → Prop}
theorem BayLies.lt (h : BayLies w b B F bs ptr Fs) : ∀ x, F x → x < w.heap.size := by
  intro x hx
  rcases (h.hF x).1 hx with rfl | rfl | ⟨j, hj⟩
  · exact lt_of_heap h.hb
  · exact lt_of_heap h.hs
  · exact (h.dev j).lt x hj
theorem BayLies.keep (h : BayLies w b B F bs ptr Fs) {w' : World} {G : Nat → Prop} (hk : Keep G w w') (hG : ∀ x, F x → ¬ G x) : BayLies w' b B F bs ptr Fs :=
  ⟨hk.at h.hb (hG _ ((h.hF _).2 (.inl rfl))), hk.at h.hs (hG _ ((h.hF _).2 (.inr (.inl rfl)))), fun j => (h.dev j).keep hk (fun x hx => hG x ((h.hF x).2 (.inr (.inr ⟨j, hx⟩)))), h.apart, h.ownb, h.owns, h.hF, h.ok⟩
theorem BayLies.slot (h : BayLies w b B F bs ptr Fs) {j : Nat} (hj : j < B.n * 3) : w.cell? ⟨bs, j, none⟩ = some (ptr j) :=
  cell_at h.hs j (by simp [hj])
theorem BayLies.head (h : BayLies w b B F bs ptr Fs) : w.cell? ⟨b, 0, none⟩ = some (.slice (some ⟨bs, 0, none⟩) B.n B.n) ∧ w.cell? ⟨b, 1, none⟩ = some (.bool B.dark) ∧ w.cell? ⟨b, 2, none⟩ = some (.int .i64 B.trip) ∧
    w.cell? ⟨b, 3, none⟩ = some (.int .i64 B.cr) ∧ w.cell? ⟨b, 4, none⟩ = some (.int .i64 B.cw) ∧ w.cell? ⟨b, 5, none⟩ = some (.int .i64 B.cf) :=
  ⟨cell_at h.hb 0 rfl, cell_at h.hb 1 rfl, cell_at h.hb 2 rfl, cell_at h.hb 3 rfl, cell_at h.hb 4 rfl, cell_at h.hb 5 rfl⟩
theorem BayAt.lt (h : BayAt w b B F) : ∀ x, F x → x < w.heap.size := by obtain ⟨_, _, _, h⟩ := h; exact h.lt
theorem BayAt.keep (h : BayAt w b B F) {w' : World} {G : Nat → Prop} (hk : Keep G w w') (hG : ∀ x, F x → ¬ G x) : BayAt w' b B F := by obtain ⟨bs, ptr, Fs, h⟩ := h; exact ⟨bs, ptr, Fs, h.keep hk hG⟩
theorem BayAt.ok (h : BayAt w b B F) : B.Ok := by obtain ⟨_, _, _, h⟩ := h; exact h.ok
theorem BayAt.head (h : BayAt w b B F) : ∃ bs : Nat, w.cell? ⟨b, 0, none⟩ = some (.slice (some ⟨bs, 0, none⟩) B.n B.n) ∧ w.cell? ⟨b, 1, none⟩ = some (.bool B.dark) ∧ w.cell? ⟨b, 2, none⟩ = some (.int .i64 B.trip) ∧
    w.cell? ⟨b, 3, none⟩ = some (.int .i64 B.cr) ∧ w.cell? ⟨b, 4, none⟩ = some (.int .i64 B.cw) ∧ w.cell? ⟨b, 5, none⟩ = some (.int .i64 B.cf) := by
  obtain ⟨bs, _, _, h⟩ := h; exact ⟨bs, h.head⟩

/-- A device's place is given another device (or none): its blocks are those of the old one, or new, and no others have turned. -/
theorem BayLies.redev (h : BayLies w b B F bs ptr Fs) {w' : World} {i : Nat} {d' : Option Dev} {F' : Nat → Prop} (hk : Keep (Fs i) w w') (hd : DevAt w' (ptr i) d' F') (hF' : ∀ x, F' x → Fs i x ∨ w.heap.size ≤ x)
    (hi : i < B.n * 3) (hl : ∀ d, d' = some d → 0 ≤ d.left ∧ d.left ≤ 9223372036854775807) :
    BayLies w' b (B.setDev i d') (fun x => x = b ∨ x = bs ∨ ∃ j, put Fs i F' j x) bs ptr (put Fs i F') := by
  have hFx : ∀ j x, j ≠ i → Fs j x → x < w.heap.size ∧ ¬ Fs i x := fun j x hj hx => ⟨(h.dev j).lt x hx, h.apart j i x hj hx⟩
  refine ⟨hk.at h.hb (h.ownb i), hk.at h.hs (h.owns i), fun j => ?_, fun a c x hac ha hc => ?_, fun j => ?_, fun j => ?_, fun x => Iff.rfl, ⟨h.ok.pos, h.ok.le, fun j hj => ?_, fun j d hd' => ?_, h.ok.trip⟩⟩
  · by_cases hj : j = i
    · subst hj; simpa [By.setDev] using hd
    · simp only [By.setDev, put_other _ _ hj]
      exact (h.dev j).keep hk (fun x hx => h.apart j i x hj hx)
  · by_cases h1 : a = i
    · subst h1
      have h2 : c ≠ a := Ne.symm hac
      rw [put_same] at ha
      rw [put_other _ _ h2] at hc
      obtain ⟨hx1, hx2⟩ := hFx c x h2 hc
      rcases hF' x ha with hx | hx
      · exact hx2 hx
      · omega
    · rw [put_other _ _ h1] at ha
      by_cases h2 : c = i
      · subst h2
        rw [put_same] at hc
        obtain ⟨hx1, hx2⟩ := hFx a x h1 ha
        rcases hF' x hc with hx | hx
        · exact hx2 hx
        · omega
      · rw [put_other _ _ h2] at hc
        exact h.apart a c x hac ha hc
  · by_cases hj : j = i
    · subst hj; rw [put_same]; intro hx
      rcases hF' _ hx with hx | hx
      · exact h.ownb _ hx
      · have := lt_of_heap h.hb; omega
    · rw [put_other _ _ hj]; exact h.ownb j
  · by_cases hj : j = i
    · subst hj; rw [put_same]; intro hx
      rcases hF' _ hx with hx | hx
      · exact h.owns _ hx
      · have := lt_of_heap h.hs; omega
    · rw [put_other _ _ hj]; exact h.owns j
  · have : j ≠ i := by simp only [By.setDev] at hj; omega
    simp only [By.setDev, put_other _ _ this]; exact h.ok.out j hj
  · by_cases hj : j = i
    · subst hj; simp [By.setDev] at hd'; exact hl d hd'
    · simp only [By.setDev, put_other _ _ hj] at hd'; exact h.ok.left j d hd'
theorem BayLies.redev_F {w' : World} (h : BayLies w b B F bs ptr Fs) {i : Nat} {F' : Nat → Prop} (hF' : ∀ x, F' x → Fs i x ∨ w.heap.size ≤ x) :
    ∀ x, (x = b ∨ x = bs ∨ ∃ j, put Fs i F' j x) → F x ∨ w.heap.size ≤ x := by
  rintro x (rfl | rfl | ⟨j, hj⟩)
  · exact .inl ((h.hF _).2 (.inl rfl))
  · exact .inl ((h.hF _).2 (.inr (.inl rfl)))
  · by_cases e : j = i
    · subst e; rw [put_same] at hj
      rcases hF' x hj with hx | hx
      · exact .inl ((h.hF x).2 (.inr (.inr ⟨_, hx⟩)))
      · exact .inr hx
    · rw [put_other _ _ e] at hj
      exact .inl ((h.hF x).2 (.inr (.inr ⟨j, hj⟩)))
/-- Its head is written. -/
theorem BayLies.rehead (h : BayLies w b B F bs ptr Fs) {w' : World} (hk : Keep (· = b) w w') {B' : By} (hn : B'.n = B.n) (hd : B'.dev = B.dev) (ht : -1 ≤ B'.trip ∧ B'.trip ≤ 9223372036854775807)
    (hb : w'.heap[b]? = some (.cells #[.slice (some ⟨bs, 0, none⟩) B.n B.n, .bool B'.dark, .int .i64 B'.trip, .int .i64 B'.cr, .int .i64 B'.cw, .int .i64 B'.cf] 130 (0, 0))) : BayLies w' b B' F bs ptr Fs := by
  have hne : bs ≠ b := ne_of_elem h.hs h.hb (by decide)
  have hs' := hk.at h.hs hne
  refine ⟨by rw [hn]; exact hb, by rw [hn]; exact hs', fun j => by rw [hd]; exact (h.dev j).keep hk (fun x hx e => h.ownb j (e ▸ hx)), h.apart, h.ownb, h.owns, h.hF, ⟨by rw [hn]; exact h.ok.pos, by rw [hn]; exact h.ok.le, by rw [hn, hd]; exact h.ok.out, by rw [hd]; exact h.ok.left, ht⟩⟩
end

/-- What an operation on a bay leaves: the bay B'; its blocks are those that it had, or new; no others have turned. -/
def BayPost (w : World) (b : Nat) (B' : By) (F : Nat → Prop) (w' : World) : Prop :=
  ∃ F', BayAt w' b B' F' ∧ Keep F w w' ∧ ∀ x, F' x → F x ∨ w.heap.size ≤ x
theorem BayPost.same {w : World} {b : Nat} {B : By} {F : Nat → Prop} (h : BayAt w b B F) : BayPost w b B F w := ⟨F, h, Keep.refl _ _, fun _ hx => .inl hx⟩

/-! ### at, in, there -/
def slotPtr (bs n : Nat) (k : Int) : Value := if 0 ≤ k ∧ k < n then .pointer (some ⟨bs, k.toNat * 3, none⟩) else .pointer none

section
variable {w : World} {b : Nat} {B : By} {F : Nat → Prop} {bs : Nat} {ptr : Nat → Value} {Fs : Nat → Nat → Prop}
theorem at_any (h : BayLies w b B F bs ptr Fs) (k : Int) : Calls Try.prog 92 #[.pointer (some ⟨b, 0, none⟩), .int .i64 k] w fun e w' => e = .returned (slotPtr bs B.n k) ∧ w = w' := by
  obtain ⟨h0, _⟩ := h.head
  have hle := h.ok.le
  generalize B.n = n at *
  clear h
  unfold slotPtr
  by_cases h1 : k < 0
  · rw [if_neg (by omega)]
    go_enter Try.func92, Try.ntmps92
    go_wp2
    go_ret
    exact ⟨rfl, rfl⟩
  · by_cases h2 : k < n
    · obtain ⟨i, rfl⟩ := Int.eq_ofNat_of_zero_le (show 0 ≤ k by omega)
      rw [if_pos (by omega)]
      have hi : i < n := by omega
      clear h1 h2
      go_enter Try.func92, Try.ntmps92
      go_wp2
      go_ret
      exact ⟨rfl, rfl⟩
    · rw [if_neg (by omega)]
      go_enter Try.func92, Try.ntmps92
      go_wp2
      go_ret
      exact ⟨rfl, rfl⟩
end
end Go.Proofs.Ytghnbbpoaeheaaa

/- The bay's functions, walked: in, there, Has, Sectors, Dark, Counts, Trip, Image, Pending, Wear, Fail. -/
namespace Go.Proofs.Ytghnbbpoaeheaaa
open Go.RowKit

def By.is (B : By) (k : Int) : Prop := 0 ≤ k ∧ k < B.n
instance (B : By) (k : Int) : Decidable (B.is k) := inferInstanceAs (Decidable (_ ∧ _))
/-- The disk in a slot. -/
def By.in (B : By) (k : Int) : Option Dev := if B.is k then B.dev (k.toNat * 3) else none
def By.tcode (B : By) (k : Int) : Int := if B.is k then (match B.dev (k.toNat * 3) with | none => 51 | some _ => 0) else 1
def inPtr (ptr : Nat → Value) (B : By) (k : Int) : Value := if B.is k then ptr (k.toNat * 3) else .pointer none

section
variable {w : World} {b : Nat} {B : By} {F : Nat → Prop} {bs : Nat} {ptr : Nat → Value} {Fs : Nat → Nat → Prop}
theorem in_any (h : BayLies w b B F bs ptr Fs) (k : Int) : Calls Try.prog 81 #[.pointer (some ⟨b, 0, none⟩), .int .i64 k] w fun e w' => e = .returned (inPtr ptr B k) ∧ w = w' := by
  have HA := Lib.hid (at_any h k)
  unfold inPtr
  by_cases hk : B.is k
  · obtain ⟨h1, h2⟩ := hk
    have e : slotPtr bs B.n k = .pointer (some ⟨bs, k.toNat * 3, none⟩) := by unfold slotPtr; rw [if_pos ⟨h1, h2⟩]
    rw [e] at HA
    rw [if_pos ⟨h1, h2⟩]
    have hc := h.slot (j := k.toNat * 3) (by omega)
    generalize ptr (k.toNat * 3) = v at hc
    generalize k.toNat * 3 = q at *
    clear h h1 h2 e
    go_enter Try.func81, Try.ntmps81
    go_wp2_with (go_at_call 92; refine HA.out.mono ?_; rintro e w' ⟨rfl, rfl⟩)
    go_ret
    exact ⟨rfl, rfl⟩
  · have e : slotPtr bs B.n k = .pointer none := by unfold slotPtr; exact if_neg hk
    rw [e] at HA
    rw [if_neg hk]
    clear h hk e
    go_enter Try.func81, Try.ntmps81
    go_wp2_with (go_at_call 92; refine HA.out.mono ?_; rintro e w' ⟨rfl, rfl⟩)
    go_ret
    exact ⟨rfl, rfl⟩

set_option maxHeartbeats 400000 in
theorem there_any (h : BayLies w b B F bs ptr Fs) (k : Int) : Calls Try.prog 80 #[.pointer (some ⟨b, 0, none⟩), .int .i64 k] w fun e w' => e = .returned (.tuple #[inPtr ptr B k, .int .u16 (B.tcode k)]) ∧ w = w' := by
  have HA := Lib.hid (at_any h k)
  have HI := Lib.hid (in_any h k)
  unfold By.tcode
  by_cases hk : B.is k
  · have e : slotPtr bs B.n k = .pointer (some ⟨bs, k.toNat * 3, none⟩) := by unfold slotPtr; exact if_pos hk
    have e2 : inPtr ptr B k = ptr (k.toNat * 3) := if_pos hk
    rw [e] at HA
    rw [e2] at HI ⊢
    rw [if_pos hk]
    have hd := h.dev (k.toNat * 3)
    cases hdv : B.dev (k.toNat * 3) with
    | none =>
      rw [hdv] at hd
      rw [hd.none_form] at HI ⊢
      generalize k.toNat * 3 = q at *
      clear h hk e e2 hd hdv
      go_enter Try.func80, Try.ntmps80
      go_wp2_with (first | (go_at_call 92; refine HA.out.mono ?_; rintro e w' ⟨rfl, rfl⟩) | (go_at_call 81; refine HI.out.mono ?_; rintro e w' ⟨rfl, rfl⟩))
      go_ret2
      exact ⟨rfl, rfl⟩
    | some d =>
      rw [hdv] at hd
      obtain ⟨bv, bd, hp, _⟩ := hd.some_form
      rw [hp] at HI ⊢
      generalize k.toNat * 3 = q at *
      clear h hk e e2 hd hdv hp
      go_enter Try.func80, Try.ntmps80
      go_wp2_with (first | (go_at_call 92; refine HA.out.mono ?_; rintro e w' ⟨rfl, rfl⟩) | (go_at_call 81; refine HI.out.mono ?_; rintro e w' ⟨rfl, rfl⟩))
      go_ret2
      exact ⟨rfl, rfl⟩
  · have e : slotPtr bs B.n k = .pointer none := by unfold slotPtr; exact if_neg hk
    have e2 : inPtr ptr B k = .pointer none := if_neg hk
    rw [e] at HA
    rw [e2] at HI ⊢
    rw [if_neg hk]
    clear h hk e e2
    go_enter Try.func80, Try.ntmps80
    go_wp2_with (first | (go_at_call 92; refine HA.out.mono ?_; rintro e w' ⟨rfl, rfl⟩) | (go_at_call 81; refine HI.out.mono ?_; rintro e w' ⟨rfl, rfl⟩))
    go_ret2
    exact ⟨rfl, rfl⟩
end

/-- Of the disk in a slot: the pointer to it, and its own blocks. -/
theorem BayLies.in_cases {w : World} {b : Nat} {B : By} {F : Nat → Prop} {bs : Nat} {ptr : Nat → Value} {Fs : Nat → Nat → Prop} (h : BayLies w b B F bs ptr Fs) (k : Int) :
    (B.in k = none ∧ inPtr ptr B k = .pointer none ∧ ¬ B.tcode k = 0) ∨
    ∃ d, B.in k = some d ∧ B.is k ∧ B.dev (k.toNat * 3) = some d ∧ B.tcode k = 0 ∧ inPtr ptr B k = ptr (k.toNat * 3) ∧ k.toNat * 3 < B.n * 3 := by
  unfold By.in inPtr By.tcode
  by_cases hk : B.is k
  · rw [if_pos hk, if_pos hk, if_pos hk]
    have hd := h.dev (k.toNat * 3)
    cases hdv : B.dev (k.toNat * 3) with
    | none => rw [hdv] at hd; exact .inl ⟨rfl, hd.none_form, by decide⟩
    | some d => exact .inr ⟨d, rfl, hk, rfl, rfl, rfl, by have := hk.1; have := hk.2; omega⟩
  · rw [if_neg hk, if_neg hk, if_neg hk]
    exact .inl ⟨rfl, rfl, by decide⟩

def By.has (B : By) (k : Int) : Bool := match B.in k with | none => false | some d => !d.disk.failed
def By.sectors (B : By) (k : Int) : Int := match B.in k with | none => 0 | some d => d.disk.las.length
def By.pending (B : By) (k : Int) : List Int := match B.in k with | none => [] | some d => d.disk.pending
def By.image (B : By) (k : Int) : List Int := match B.in k with | none => [] | some d => d.disk.image

section
variable {w : World} {b : Nat} {B : By} {F : Nat → Prop}
set_option maxHeartbeats 400000 in
theorem has_any (h : BayAt w b B F) (k : Int) : Calls Try.prog 27 #[.pointer (some ⟨b, 0, none⟩), .int .i64 k] w fun e w' => e = .returned (.bool (B.has k)) ∧ w = w' := by
  obtain ⟨bs, ptr, Fs, h⟩ := h
  have HI := Lib.hid (in_any h k)
  unfold By.has
  rcases h.in_cases k with ⟨h1, h2, _⟩ | ⟨d, h1, hk, hdv, _, h2, _⟩
  · rw [h1]
    rw [h2] at HI
    clear h h1 h2
    go_enter Try.func27, Try.ntmps27
    go_wp2_with (go_at_call 81; refine HI.out.mono ?_; rintro e w' ⟨rfl, rfl⟩)
    go_ret
    exact ⟨rfl, rfl⟩
  · rw [h1]
    rw [h2] at HI
    have hd := h.dev (k.toNat * 3)
    rw [hdv] at hd
    obtain ⟨bv, bd, Fd, hp, hh, hdk, _⟩ := hd
    rw [hp] at HI
    have hc := cell_at hh 0 rfl
    have HF := Lib.hid (failed_any hdk)
    clear h h1 h2 hk hdv hp hh hdk
    go_enter Try.func27, Try.ntmps27
    go_wp2_with (first | (go_at_call 81; refine HI.out.mono ?_; rintro e w' ⟨rfl, rfl⟩) | (go_at_call 67; refine HF.out.mono ?_; rintro e w' ⟨rfl, rfl⟩))
    go_ret
    exact ⟨rfl, rfl⟩
set_option maxHeartbeats 400000 in
theorem bsectors_any (h : BayAt w b B F) (k : Int) : Calls Try.prog 45 #[.pointer (some ⟨b, 0, none⟩), .int .i64 k] w fun e w' => e = .returned (.int .i64 (B.sectors k)) ∧ w = w' := by
  obtain ⟨bs, ptr, Fs, h⟩ := h
  have HI := Lib.hid (in_any h k)
  unfold By.sectors
  rcases h.in_cases k with ⟨h1, h2, _⟩ | ⟨d, h1, hk, hdv, _, h2, _⟩
  · rw [h1]
    rw [h2] at HI
    clear h h1 h2
    go_enter Try.func45, Try.ntmps45
    go_wp2_with (go_at_call 81; refine HI.out.mono ?_; rintro e w' ⟨rfl, rfl⟩)
    go_ret
    exact ⟨rfl, rfl⟩
  · rw [h1]
    rw [h2] at HI
    have hd := h.dev (k.toNat * 3)
    rw [hdv] at hd
    obtain ⟨bv, bd, Fd, hp, hh, hdk, _⟩ := hd
    rw [hp] at HI
    have hc := cell_at hh 0 rfl
    have HF := Lib.hid (sectors_any hdk)
    clear h h1 h2 hk hdv hp hh hdk
    go_enter Try.func45, Try.ntmps45
    go_wp2_with (first | (go_at_call 81; refine HI.out.mono ?_; rintro e w' ⟨rfl, rfl⟩) | (go_at_call 65; refine HF.out.mono ?_; rintro e w' ⟨rfl, rfl⟩))
    go_ret
    exact ⟨rfl, rfl⟩
theorem dark_any (h : BayAt w b B F) : Calls Try.prog 31 #[.pointer (some ⟨b, 0, none⟩)] w fun e w' => e = .returned (.bool B.dark) ∧ w = w' := by
  obtain ⟨bs, h0, h1, _⟩ := h.head
  clear h h0
  go_enter Try.func31, Try.ntmps31
  go_wp2
  go_ret
  exact ⟨rfl, rfl⟩
set_option maxHeartbeats 400000 in
theorem bpending_any (h : BayAt w b B F) (k : Int) (hcl : ∀ d, B.in k = some d → d.disk.cache.length ≤ 1000000) : Calls Try.prog 40 #[.pointer (some ⟨b, 0, none⟩), .int .i64 k] w (Gives (FreshI w (B.pending k))) := by
  obtain ⟨bs, ptr, Fs, h⟩ := h
  have HI := Lib.hid (in_any h k)
  unfold By.pending
  rcases h.in_cases k with ⟨h1, h2, _⟩ | ⟨d, h1, hk, hdv, _, h2, _⟩
  · rw [h1]
    rw [h2] at HI
    clear h h1 h2 hcl
    go_enter Try.func40, Try.ntmps40
    go_wp2_with (go_at_call 81; refine HI.out.mono ?_; rintro e w' ⟨rfl, rfl⟩)
    go_ret
    exact ⟨_, rfl, World.ownsRow_nil _ _ _ _, Keep.refl _ _⟩
  · rw [h1]
    rw [h2] at HI
    have hd := h.dev (k.toNat * 3)
    rw [hdv] at hd
    obtain ⟨bv, bd, Fd, hp, hh, hdk, _⟩ := hd
    rw [hp] at HI
    have hc := cell_at hh 0 rfl
    have HF := Lib.hid (pending_any hdk (hcl d h1))
    clear h h1 h2 hk hdv hp hh hdk hcl
    go_enter Try.func40, Try.ntmps40
    go_wp2_with (first | (go_at_call 81; refine HI.out.mono ?_; rintro e w' ⟨rfl, rfl⟩) | (go_at_call 52; refine HF.out.mono ?_; rintro e w' ⟨v, rfl, hv⟩; have HV := Lib.hid hv; clear hv))
    go_ret
    exact ⟨_, rfl, HV.out⟩
/-- What Image gives. -/
def ImagePost (w : World) (B : By) (k : Int) (v : Value) (w' : World) : Prop := ∃ s, v = .tuple #[s, .int .u16 (B.tcode k)] ∧ FreshB w (B.image k) s w'
set_option maxHeartbeats 400000 in
theorem bimage_any (h : BayAt w b B F) (k : Int) : Calls Try.prog 34 #[.pointer (some ⟨b, 0, none⟩), .int .i64 k] w (Gives (ImagePost w B k)) := by
  obtain ⟨bs, ptr, Fs, h⟩ := h
  have HT := Lib.hid (there_any h k)
  unfold ImagePost By.image
  rcases h.in_cases k with ⟨h1, h2, h3⟩ | ⟨d, h1, hk, hdv, h3, h2, _⟩
  · rw [h1]
    rw [h2] at HT
    have hne : (B.tcode k != 0) = true := by simpa using h3
    generalize B.tcode k = c at *
    clear h h1 h2 h3
    go_enter Try.func34, Try.ntmps34
    go_wp2_with (go_at_call 80; refine HT.out.mono ?_; rintro e w' ⟨rfl, rfl⟩)
    go_ret2
    exact ⟨_, rfl, _, rfl, World.ownsRow_nil _ _ _ _, Keep.refl _ _⟩
  · rw [h1, h3]
    rw [h2, h3] at HT
    have hd := h.dev (k.toNat * 3)
    rw [hdv] at hd
    obtain ⟨bv, bd, Fd, hp, hh, hdk, _⟩ := hd
    rw [hp] at HT
    have hc := cell_at hh 0 rfl
    have HF := Lib.hid (image_any hdk)
    clear h h1 h2 h3 hk hdv hp hh hdk
    go_enter Try.func34, Try.ntmps34
    go_wp2_with (first | (go_at_call 80; refine HT.out.mono ?_; rintro e w' ⟨rfl, rfl⟩) | (go_at_call 18; refine HF.out.mono ?_; rintro e w' ⟨v, rfl, hv⟩; have HV := Lib.hid hv; clear hv))
    go_ret2
    exact ⟨_, rfl, _, rfl, HV.out⟩
/-- Counts: a struct, handed over by value. -/
theorem counts_any (h : BayAt w b B F) : Calls Try.prog 29 #[.pointer (some ⟨b, 0, none⟩)] w (Gives fun v w' => v = .agg #[.int .i64 B.cr, .int .i64 B.cw, .int .i64 B.cf] ∧ Keep NoF w w') := by
  obtain ⟨bs, h0, h1, h2, h3, h4, h5⟩ := h.head
  have hb := World.block_lt_of_cell? w _ h0
  clear h h0 h1 h2
  go_enter Try.func29, Try.ntmps29
  go_wp2
  refine bodyPost_ret (v := .agg #[.int .i64 B.cr, .int .i64 B.cw, .int .i64 B.cf]) ?_ rfl ⟨_, rfl, rfl, ?_⟩
  · simp [results, Try.results29, go_sem]
  · exact Keep.alloc _ _ _
end
end Go.Proofs.Ytghnbbpoaeheaaa

/- The bay's functions, walked: use, and what operate does with a disk. -/
namespace Go.Proofs.Ytghnbbpoaeheaaa
open Go.RowKit

/-- One operation more of a disk that may be worn. -/
def Dev.use (d : Dev) : Dev := if d.worn then (if d.left = 0 then { disk := d.disk.fail, worn := false, left := d.left } else { d with left := d.left - 1 }) else d
/-- The device is another one now; G: what else may have turned. -/
def DevPost (w : World) (v : Value) (d' : Dev) (F G : Nat → Prop) (w' : World) : Prop :=
  ∃ F', DevAt w' v (some d') F' ∧ Keep (fun x => F x ∨ G x) w w' ∧ ∀ x, F' x → F x ∨ w.heap.size ≤ x
theorem DevPost.same {w : World} {v : Value} {d : Dev} {F G : Nat → Prop} (h : DevAt w v (some d) F) : DevPost w v d F G w := ⟨F, h, Keep.refl _ _, fun _ hx => .inl hx⟩

theorem DevPost.disk {w : World} {bv bd : Nat} {d : Dev} {Fd F : Nat → Prop} (hh : w.heap[bv]? = some (.cells #[.pointer (some ⟨bd, 0, none⟩), .bool d.worn, .int .i64 d.left] 133 (0, 0))) (hn : ¬ Fd bv) (hF : ∀ x, F x ↔ x = bv ∨ Fd x)
    {D' : Dk} {w' : World} (hp : DiskPost w bd D' Fd w') (G : Nat → Prop) : DevPost w (.pointer (some ⟨bv, 0, none⟩)) { d with disk := D' } F G w' := by
  obtain ⟨F', h1, h2, h3⟩ := hp
  refine ⟨fun x => x = bv ∨ F' x, ⟨bv, bd, F', rfl, h2.at hh hn, h1, fun hx => ?_, fun x => Iff.rfl⟩, h2.mono fun x _ hx => .inl ((hF x).2 (.inr hx)), ?_⟩
  · rcases h3 _ hx with hx | hx
    · exact hn hx
    · have := lt_of_heap hh; omega
  · rintro x (rfl | hx)
    · exact .inl ((hF _).2 (.inl rfl))
    · exact (h3 x hx).imp (fun h => (hF x).2 (.inr h)) id

set_option maxHeartbeats 400000 in
theorem use_any {w : World} {v : Value} {d : Dev} {F : Nat → Prop} (h : DevAt w v (some d) F) (hcl : d.disk.cache.length ≤ 1000000) (hl : 0 ≤ d.left ∧ d.left ≤ 9223372036854775807) :
    Calls Try.prog 103 #[v] w (Gives fun r w' => r = .tuple #[] ∧ DevPost w v d.use F NoF w') := by
  obtain ⟨bv, bd, Fd, rfl, hh, hdk, hn, hF⟩ := id h
  have c0 := cell_at hh 0 rfl
  have c1 := cell_at hh 1 rfl
  have c2 := cell_at hh 2 rfl
  have f2 := free_at hh 2
  unfold Dev.use
  cases hw : d.worn with
  | false =>
    rw [if_neg (by decide)]
    rw [hw] at c1
    have HP := Lib.hid (DevPost.same (G := NoF) h)
    clear h hh hdk hn hF c0 c2 f2 hw hcl hl
    go_enter Try.func103, Try.ntmps103
    go_wp2
    go_end0
    exact ⟨_, rfl, rfl, HP.out⟩
  | true =>
    rw [if_pos rfl]
    rw [hw] at c1
    by_cases h0 : d.left = 0
    · rw [if_pos h0]
      rw [h0] at c2
      have HF := Lib.hid (fail_any hdk hcl)
      have HP : Hid (∀ w', DiskPost w bd d.disk.fail Fd w' → (w'.cell? ⟨bv, 1, none⟩ = some (.bool true) ∧ w'.frozen? ⟨bv, 1, none⟩ = false) ∧ DevPost w (.pointer (some ⟨bv, 0, none⟩)) { disk := d.disk.fail, worn := false, left := d.left } F NoF (w'.setCell ⟨bv, 1, none⟩ (.bool false))) := by
        rintro w' ⟨F', h1, h2, h3⟩
        have hh' := h2.at hh hn
        have hnb : ¬ F' bv := fun hx => by
          rcases h3 _ hx with hx | hx
          · exact hn hx
          · have := lt_of_heap hh; omega
        have hk : Keep (· = bv) w' (w'.setCell ⟨bv, 1, none⟩ (.bool false)) := Keep.setCell _ _ _ rfl
        have hb := heap_setCell_same w' bv 1 _ _ (.bool false) hh'
        refine ⟨⟨by have := cell_at hh' 1 rfl; rw [hw] at this; exact this, free_at hh' 1⟩, fun x => x = bv ∨ F' x, ⟨bv, bd, F', rfl, by simpa using hb, h1.keep hk (fun x hx e => hnb (e ▸ hx)), hnb, fun x => Iff.rfl⟩, (h2.mono fun x _ hx => .inl ((hF x).2 (.inr hx))).trans hk (fun x _ e => .inl ((hF x).2 (.inl e))), ?_⟩
        rintro x (rfl | hx)
        · exact .inl ((hF _).2 (.inl rfl))
        · exact (h3 x hx).imp (fun h => (hF x).2 (.inr h)) id
      clear h hh hdk hn hF hw h0 hcl hl f2
      go_enter Try.func103, Try.ntmps103
      go_wp2_with (go_at_call 63; refine HF.out.mono ?_; rintro e w' ⟨v, rfl, rfl, hv⟩; have HV := Lib.hid hv; clear hv; obtain ⟨⟨e1, e2⟩, _⟩ := HP.out _ HV.out)
      go_end0
      exact ⟨_, rfl, rfl, (HP.out _ HV.out).2⟩
    · rw [if_neg h0]
      have hp : 0 < d.left := by omega
      rw [hw] at hh
      have hb := heap_setCell_same w bv 2 _ _ (.int .i64 (d.left - 1)) hh
      have hk : Keep (· = bv) w (w.setCell ⟨bv, 2, none⟩ (.int .i64 (d.left - 1))) := Keep.setCell _ _ _ rfl
      have HP : Hid (DevPost w (.pointer (some ⟨bv, 0, none⟩)) { disk := d.disk, worn := true, left := d.left - 1 } F NoF (w.setCell ⟨bv, 2, none⟩ (.int .i64 (d.left - 1)))) :=
        ⟨F, ⟨bv, bd, Fd, rfl, by simpa using hb, hdk.keep hk (fun x hx e => hn (e ▸ hx)), hn, hF⟩, hk.mono fun x _ e => .inl ((hF x).2 (.inl e)), fun _ hx => .inl hx⟩
      have hne : (d.left == 0) = false := by simpa using h0
      obtain ⟨hl1, hl2⟩ := hl
      clear h hh hdk hn hF h0 hcl hb hk c0
      generalize d.left = l at *
      go_enter Try.func103, Try.ntmps103
      go_wp2
      go_end0
      exact ⟨_, rfl, rfl, HP.out⟩

/-! ### what is done with the disk -/
set_option maxHeartbeats 400000 in
theorem do_flush {w : World} {v : Value} {d : Dev} {F : Nat → Prop} (h : DevAt w v (some d) F) (hcl : d.disk.cache.length ≤ 1000000) :
    Calls Try.prog 91 #[v] w (Gives (CodePost d.disk.fcode (DevPost w v { d with disk := d.disk.flush } F NoF))) := by
  obtain ⟨bv, bd, Fd, rfl, hh, hdk, hn, hF⟩ := id h
  have c0 := cell_at hh 0 rfl
  have HF := Lib.hid (flush_any hdk hcl)
  have HP : Hid (∀ w', DiskPost w bd d.disk.flush Fd w' → DevPost w (.pointer (some ⟨bv, 0, none⟩)) { d with disk := d.disk.flush } F NoF w') := fun w' hp => DevPost.disk hh hn hF hp NoF
  clear h hh hdk hn hF hcl
  go_enter Try.func91, Try.ntmps91
  go_wp2_with (go_at_call 38; refine HF.out.mono ?_; rintro e w' ⟨v, rfl, rfl, hv⟩; have HV := Lib.hid hv; clear hv)
  go_ret
  exact ⟨_, rfl, rfl, HP.out _ HV.out⟩

set_option maxHeartbeats 400000 in
theorem do_write {w : World} {v : Value} {d : Dev} {F : Nat → Prop} (h : DevAt w v (some d) F) (b1 b2 : Nat) (at_ : Int) (x : Value) (xs : List Int) (h1 : w.cell? ⟨b1, 0, none⟩ = some (.int .i64 at_)) (h2 : w.cell? ⟨b2, 0, none⟩ = some x)
    (hx : BytesAt w x xs) (hcl : d.disk.cache.length ≤ 1000000) (hb1 : ¬ F b1) (hb2 : ¬ F b2) :
    Calls Try.prog 89 #[v, .pointer (some ⟨b1, 0, none⟩), .pointer (some ⟨b2, 0, none⟩)] w (Gives (CodePost (d.disk.wcode at_ xs.length) (DevPost w v { d with disk := d.disk.write at_ xs } F NoF))) := by
  obtain ⟨bv, bd, Fd, rfl, hh, hdk, hn, hF⟩ := id h
  have c0 := cell_at hh 0 rfl
  have hkd : Keep NoF w w.drew := Keep.drew _ _
  have hkq : ∀ nq, Keep NoF w (w.drewN nq) := fun nq => Keep.drewN _ _ _
  have HF := Lib.hid (fun nq => write_any (hdk.keep (hkq nq) (fun _ _ h => h)) at_ x xs (hx.keep (hkq nq) (fun _ _ _ _ h => h)) hcl)
  have HF2 := Lib.hid (write_any (hdk.keep hkd (fun _ _ h => h)) at_ x xs (hx.keep hkd (fun _ _ _ _ h => h)) hcl)
  have HP : Hid (∀ w', DiskPost w.drew bd (d.disk.write at_ xs) Fd w' → DevPost w (.pointer (some ⟨bv, 0, none⟩)) { d with disk := d.disk.write at_ xs } F NoF w') := fun w' hp => by
    refine DevPost.disk hh hn hF ?_ NoF
    obtain ⟨F', p1, p2, p3⟩ := hp
    exact ⟨F', p1, (Keep.drew _ w).trans' p2, p3⟩
  have HS : Hid (∀ w', DiskPost w.drew bd (d.disk.write at_ xs) Fd w' → w'.cell? ⟨bv, 0, none⟩ = some (.pointer (some ⟨bd, 0, none⟩)) ∧ w'.cell? ⟨b1, 0, none⟩ = some (.int .i64 at_) ∧ w'.cell? ⟨b2, 0, none⟩ = some x) := by
    rintro w' ⟨F', p1, p2, p3⟩
    have hs : ∀ c v, w.cell? ⟨c, 0, none⟩ = some v → ¬ Fd c → w'.cell? ⟨c, 0, none⟩ = some v := fun c v hc hnc => (World.cell?_of_block (w := w) (((Keep.drew _ w).trans' p2).block c (World.block_lt_of_cell? w _ hc) hnc)).trans hc
    exact ⟨hs _ _ c0 hn, hs _ _ h1 (fun hx => hb1 ((hF _).2 (.inr hx))), hs _ _ h2 (fun hx => hb2 ((hF _).2 (.inr hx)))⟩
  obtain ⟨a, cap, rfl, _⟩ := hx
  clear h hh hdk hn hF hcl hkd hkq hb1 hb2 HF
  go_enter Try.func89, Try.ntmps89
  go_wp2_with fail
  go_region_held3 (fun w' => w'.cell? ⟨bv, 0, none⟩ = some (.pointer (some ⟨bd, 0, none⟩)) ∧ w'.cell? ⟨b1, 0, none⟩ = some (.int .i64 at_) ∧ w'.cell? ⟨b2, 0, none⟩ = some (.slice a xs.length cap)) (first | exact HS.out _ HV.out | go_keep) (first | (go_at_call 37; refine HF2.out.mono ?_; rintro e w' ⟨v, rfl, rfl, hv⟩; have HV := Lib.hid hv; clear hv))
  go_wp2
  go_ret
  exact ⟨_, rfl, rfl, HP.out _ HV.out⟩
end Go.Proofs.Ytghnbbpoaeheaaa

/- The bay's functions, walked: what Read does with a disk. -/
namespace Go.Proofs.Ytghnbbpoaeheaaa
open Go.RowKit

/-- What Read's closure leaves: the bytes behind its variable. -/
def ReadLeft (w : World) (b2 : Nat) (l : List Int) (w' : World) : Prop :=
  ∃ s, w'.heap[b2]? = some (.cells #[s] 22 (0, 0)) ∧ OwnB w' w.heap.size s l ∧ Keep (· = b2) w w'

set_option maxHeartbeats 400000 in
theorem do_read {w : World} {v : Value} {d : Dev} {F : Nat → Prop} (h : DevAt w v (some d) F) (b1 b2 : Nat) (at_ : Int) (h1 : w.cell? ⟨b1, 0, none⟩ = some (.int .i64 at_)) (h2 : w.heap[b2]? = some (.cells #[.slice none 0 0] 22 (0, 0)))
    (h12 : b1 ≠ b2) (hb2 : ¬ F b2) :
    Calls Try.prog 95 #[v, .pointer (some ⟨b1, 0, none⟩), .pointer (some ⟨b2, 0, none⟩)] w (Gives (CodePost (d.disk.code at_) (ReadLeft w b2 (d.disk.read at_)))) := by
  obtain ⟨bv, bd, Fd, rfl, hh, hdk, hn, hF⟩ := id h
  have c0 := cell_at hh 0 rfl
  have hbv : bv ≠ b2 := fun e => hb2 ((hF _).2 (.inl e.symm))
  have hkd : Keep NoF w w.drew := Keep.drew _ _
  have hr : Calls Try.prog 36 #[.pointer (some ⟨bd, 0, none⟩), .int .i64 at_] w.drew fun e w' => ∃ a c, e = .returned (.tuple #[.slice a (d.disk.read at_).length c, .int .u16 (d.disk.code at_)]) ∧
      Hid (OwnB w' w.heap.size (.slice a (d.disk.read at_).length c) (d.disk.read at_) ∧ Keep NoF w w') := by
    refine (read_any (hdk.keep hkd (fun _ _ h => h)) at_).mono ?_
    rintro e w' ⟨v, rfl, s, rfl, ho, hk⟩
    obtain ⟨a, c, rfl⟩ := own_form ho
    exact ⟨a, c, rfl, ho, hkd.trans' hk⟩
  have HR := Lib.hid hr
  have HS : Hid (∀ w', Keep NoF w w' → w'.cell? ⟨bv, 0, none⟩ = some (.pointer (some ⟨bd, 0, none⟩)) ∧ w'.cell? ⟨b1, 0, none⟩ = some (.int .i64 at_)) := fun w' hk => by
    have hs : ∀ c v, w.cell? ⟨c, 0, none⟩ = some v → w'.cell? ⟨c, 0, none⟩ = some v := fun c v hc => (World.cell?_of_block (w := w) (hk.block c (World.block_lt_of_cell? w _ hc) (fun h => h))).trans hc
    exact ⟨hs _ _ c0, hs _ _ h1⟩
  have HX : Hid (∀ w', Keep NoF w w' → w'.cell? ⟨b2, 0, none⟩ = some (.slice none 0 0) ∧ w'.frozen? ⟨b2, 0, none⟩ = false) := fun w' hk => by
    have := hk.at h2 (fun h => h)
    exact ⟨cell_at this 0 rfl, free_at this 0⟩
  have HS2 : Hid (∀ w' u, Keep NoF w w' → (w'.setCell ⟨b2, 0, none⟩ u).cell? ⟨bv, 0, none⟩ = some (.pointer (some ⟨bd, 0, none⟩)) ∧ (w'.setCell ⟨b2, 0, none⟩ u).cell? ⟨b1, 0, none⟩ = some (.int .i64 at_)) := fun w' u hk => by
    obtain ⟨e1, e2⟩ := HS.out w' hk
    exact ⟨(World.cell?_of_block (w := w') (Below.heap_setCell w' ⟨b2, 0, none⟩ u bv hbv)).trans e1, (World.cell?_of_block (w := w') (Below.heap_setCell w' ⟨b2, 0, none⟩ u b1 h12)).trans e2⟩
  have HE : Hid (∀ w' a n c, OwnB w' w.heap.size (.slice a n c) (d.disk.read at_) → Keep NoF w w' → ReadLeft w b2 (d.disk.read at_) (w'.setCell ⟨b2, 0, none⟩ (.slice a n c))) := fun w' a n c ho hk => by
    have h2' := hk.at h2 (fun h => h)
    have hk2 : Keep (· = b2) w' (w'.setCell ⟨b2, 0, none⟩ (.slice a n c)) := Keep.setCell _ _ _ rfl
    refine ⟨.slice a n c, by simpa using heap_setCell_same w' b2 0 _ _ (.slice a n c) h2', ownsRow_keep ho hk2 (fun x hx e => ?_), (hk.mono (G := (· = b2)) (fun _ _ h => h.elim)).trans' hk2⟩
    have := ownBlock_ge ho hx
    have e2 : x = b2 := e
    have := lt_of_heap h2
    omega
  clear h hh hdk hn hF hkd hb2 hr h2 h12 hbv
  generalize d.disk.read at_ = l at *
  generalize d.disk.code at_ = cc at *
  go_enter Try.func95, Try.ntmps95
  go_wp2_with fail
  go_region_held3 (fun w' => w'.cell? ⟨bv, 0, none⟩ = some (.pointer (some ⟨bd, 0, none⟩)) ∧ w'.cell? ⟨b1, 0, none⟩ = some (.int .i64 at_)) (first | exact HS.out _ HV.out.2 | exact HS2.out _ _ HV.out.2 | go_keep) (first | (go_at_call 36; refine HR.out.mono ?_; rintro e w' ⟨a, c, rfl, HV⟩; obtain ⟨e1, e2⟩ := HX.out _ HV.out.2))
  go_wp2
  go_ret
  exact ⟨_, rfl, rfl, HE.out _ _ _ _ HV.out.1 HV.out.2⟩
end Go.Proofs.Ytghnbbpoaeheaaa
