/- The disk's functions, walked: may, Sectors, Failed, Read. -/
import Derived.Test.YtghnbbpoaeheaaaOps
namespace Go.Proofs.Ytghnbbpoaeheaaa
open Go.RowKit

/-- The four cells of a disk's head. -/
theorem DiskAt.head {w : World} {b : Nat} {D : Dk} {F : Nat → Prop} (h : DiskAt w b D F) :
    ∃ (bL bS : Nat) (csl : Value), w.cell? ⟨b, 0, none⟩ = some (.slice (some ⟨bL, 0, none⟩) D.las.length D.las.length) ∧ w.cell? ⟨b, 1, none⟩ = some csl ∧
      w.cell? ⟨b, 2, none⟩ = some (.map (some bS)) ∧ w.cell? ⟨b, 3, none⟩ = some (.bool D.failed) := by
  obtain ⟨bL, bS, csl, es, ck, h1, _⟩ := h
  exact ⟨bL, bS, csl, cell_at h1 0 rfl, cell_at h1 1 rfl, cell_at h1 2 rfl, cell_at h1 3 rfl⟩

theorem may_any {w : World} {b : Nat} {D : Dk} {F : Nat → Prop} (h : DiskAt w b D F) (at_ : Int) :
    Calls Try.prog 82 #[.pointer (some ⟨b, 0, none⟩), .int .i64 at_] w fun e w' => e = .returned (.int .u16 (D.code at_)) ∧ w = w' := by
  obtain ⟨bL, bS, csl, h0, _, _, h3⟩ := h.head
  generalize hn : D.las.length = n at h0
  unfold Dk.code
  rw [hn]
  clear h hn
  cases hf : D.failed <;> rw [hf] at h3 <;> clear hf
  · by_cases h1 : at_ < 0
    · rw [if_neg (by simp), if_pos (.inl h1)]
      go_enter Try.func82, Try.ntmps82
      go_wp2
      go_ret
      exact ⟨rfl, rfl⟩
    · by_cases h2 : at_ < n
      · rw [if_neg (by simp), if_neg (by omega)]
        go_enter Try.func82, Try.ntmps82
        go_wp2
        go_ret
        exact ⟨rfl, rfl⟩
      · rw [if_neg (by simp), if_pos (by omega)]
        go_enter Try.func82, Try.ntmps82
        go_wp2
        go_ret
        exact ⟨rfl, rfl⟩
  · rw [if_pos rfl]
    go_enter Try.func82, Try.ntmps82
    go_wp2
    go_ret
    exact ⟨rfl, rfl⟩

theorem sectors_any {w : World} {b : Nat} {D : Dk} {F : Nat → Prop} (h : DiskAt w b D F) :
    Calls Try.prog 65 #[.pointer (some ⟨b, 0, none⟩)] w fun e w' => e = .returned (.int .i64 D.las.length) ∧ w = w' := by
  obtain ⟨bL, bS, csl, h0, _, _, h3⟩ := h.head
  clear h
  go_enter Try.func65, Try.ntmps65
  go_wp2
  go_ret
  exact ⟨rfl, rfl⟩
theorem failed_any {w : World} {b : Nat} {D : Dk} {F : Nat → Prop} (h : DiskAt w b D F) :
    Calls Try.prog 67 #[.pointer (some ⟨b, 0, none⟩)] w fun e w' => e = .returned (.bool D.failed) ∧ w = w' := by
  obtain ⟨bL, bS, csl, h0, _, _, h3⟩ := h.head
  clear h
  go_enter Try.func67, Try.ntmps67
  go_wp2
  go_ret
  exact ⟨rfl, rfl⟩

/-! ### rows of equal length -/
theorem drop_flatMap {α β : Type} (f : α → List β) (n : Nat) : ∀ (l : List α) (k : Nat), (∀ x ∈ l, (f x).length = n) → (l.flatMap f).drop (k * n) = (l.drop k).flatMap f
  | [], k, _ => by simp
  | x :: r, 0, _ => by simp
  | x :: r, k + 1, h => by
    rw [List.flatMap_cons, List.drop_append, h x List.mem_cons_self, List.drop_eq_nil_of_le (by rw [h x List.mem_cons_self, Nat.succ_mul]; omega), List.nil_append, List.drop_succ_cons,
      show (k + 1) * n - n = k * n by rw [Nat.succ_mul]; omega]
    exact drop_flatMap f n r k fun y hy => h y (List.mem_cons_of_mem _ hy)
theorem row_flatMap {α β : Type} (f : α → List β) (n : Nat) (l : List α) (k : Nat) (x : α) (h : ∀ x ∈ l, (f x).length = n) (hx : l[k]? = some x) (tl : List β) : ((l.flatMap f ++ tl).drop (k * n)).take n = f x := by
  have hk : k < l.length := (List.getElem?_eq_some_iff.1 hx).1
  have hlen : ∀ (l : List α), (∀ x ∈ l, (f x).length = n) → (l.flatMap f).length = l.length * n := by
    intro l
    induction l with
    | nil => intro _; simp
    | cons y r ih => intro h; rw [List.flatMap_cons, List.length_append, h y List.mem_cons_self, ih (fun z hz => h z (List.mem_cons_of_mem _ hz)), List.length_cons, Nat.succ_mul]; omega
  have h2 : l.drop k = x :: l.drop (k + 1) := by
    rw [List.drop_eq_getElem_cons hk]
    congr 1
    have := List.getElem?_eq_getElem hk
    rw [hx] at this; exact (Option.some.inj this).symm
  have hle : k * n ≤ (l.flatMap f).length := by rw [hlen l h]; exact Nat.mul_le_mul_right n (Nat.le_of_lt hk)
  rw [List.drop_append_of_le_length hle, drop_flatMap f n l k h, h2, List.flatMap_cons, List.append_assoc]
  have hx' : (f x).length = n := h x (List.mem_of_getElem? hx)
  rw [← hx', List.take_left]

theorem lasCells_eq (las : List (List Int)) : lasCells las = las.flatMap u8s := by
  unfold lasCells u8s
  induction las with
  | nil => rfl
  | cons s r ih => rw [List.flatten_cons, List.map_append, ih, List.flatMap_cons]

theorem DiskAt.sector {w : World} {b : Nat} {D : Dk} {F : Nat → Prop} (h : DiskAt w b D F) {bL : Nat} {k : Nat} {s : List Int} {n c : Nat} (h0 : w.cell? ⟨b, 0, none⟩ = some (.slice (some ⟨bL, 0, none⟩) n c)) (hs : D.las[k]? = some s) :
    w.rangeAt bL (k * 128) (u8s s) := by
  obtain ⟨bL', bS, csl, es, ck, h1, h2, _, _, _, _, ok⟩ := h
  have := cell_at h1 0 rfl
  rw [this] at h0
  obtain rfl : bL' = bL := by simp at h0; exact h0.1
  refine range_at h2 _ _ ?_
  rw [List.toList_toArray, lasCells_eq, length_u8s, ok.sec s (List.mem_of_getElem? hs)]
  have := row_flatMap u8s 128 D.las k s (fun x hx => by rw [length_u8s]; exact ok.sec x hx) hs []
  rwa [List.append_nil] at this
end Go.Proofs.Ytghnbbpoaeheaaa
