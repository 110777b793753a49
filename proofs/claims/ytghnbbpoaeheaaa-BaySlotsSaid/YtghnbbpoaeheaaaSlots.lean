/- BaySlots, walked. -/
import Derived.Test.YtghnbbpoaeheaaaSlotLaw
import Derived.Deep.RegionHeld3
namespace Go.Proofs.Ytghnbbpoaeheaaa
open Go.RowKit

theorem own_local {w w' : World} {base e size n : Nat} {v : Value} {xs : List Value} (h : w.ownsRow base e size v n xs) (hl : Local w w') (he : e ∉ bayTypes) : w'.ownsRow base e size v n xs := by
  obtain ⟨h1, h2⟩ := h
  refine ⟨h1, ?_⟩
  rcases h2 with h2 | ⟨g, cap, cur, hv, hg, hh, r⟩
  · exact .inl h2
  · exact .inr ⟨g, cap, cur, hv, hg, hl _ _ _ _ hh he, r⟩
theorem intsAt_of_own {w : World} {v : Value} {l : List Int} (h : OwnI w 0 v l) : IntsAt w v l := by
  obtain ⟨h1, h2⟩ := h
  rcases h2 with ⟨rfl, hn⟩ | ⟨g, cap, cur, hv, hg, hh, hc, hm, hs, ht⟩
  · have : l = [] := List.length_eq_zero_iff.1 hn
    subst this
    exact ⟨none, 0, rfl, by simp [maxLen], fun h => absurd rfl h⟩
  · refine ⟨_, cap, hv, Nat.le_trans hc hm, fun _ => ⟨g, 0, rfl, ?_⟩⟩
    refine range_at hh 0 _ ?_
    rw [List.drop_zero]
    simpa using ht
/-- The bay, the bytes that the call holds, a list of ints that it holds. -/
def Held (W : World) (b : Nat) (B : By) (L : List (Value × List Int)) (lv : Value) (p : List Int) (w : World) : Prop := Sole W b B L w ∧ OwnI w 0 lv p
section
variable {W w : World} {b : Nat} {B : By} {L : List (Value × List Int)} {lv : Value} {p : List Int}
theorem Held.quiet {w' : World} (h : Held W b B L lv p w) (hk : Keep NoF w w') : Held W b B L lv p w' := ⟨Many.quiet h.1 hk, ownsRow_keep h.2 hk (fun _ _ h => h)⟩
theorem Held.step (h : Held W b B L lv p w) : ∃ F, BayAt w b B F ∧ (∀ x, F x → W.heap.size ≤ x) ∧ ∀ B' w', BayPost w b B' F w' → Held W b B' L lv p w' := by
  obtain ⟨F, hb, hF, hst⟩ := Many.step h.1 0 (by omega)
  exact ⟨F, hb, hF, fun B' w' hp => ⟨(hst B' w' hp).1.one, own_local h.2 (hst B' w' hp).2 (by decide)⟩⟩
theorem Held.plain (h : Held W b B L lv p w) (hs : B.Small 1000000) (d : OpD) (hd : OpAt W d) : Calls Try.prog 28 #[.pointer (some ⟨b, 0, none⟩), .agg (opCells d).toArray] w (Gives fun v w' => ∃ s c, v = .tuple #[s, .int .u16 c] ∧ Held W b (B.plain d) L lv p w') :=
  Gives.imp (Many.plain h.1 0 (by omega) hs d hd) fun v w' hg => by
    obtain ⟨s, e1, e2, e3⟩ := hg
    exact ⟨s, _, e1, (e2.less fun q hq => List.mem_cons_of_mem _ hq).one, own_local h.2 e3 (by decide)⟩
theorem Held.fail (h : Held W b B L lv p w) (hs : B.Small 1000000) (k : Int) : Calls Try.prog 43 #[.pointer (some ⟨b, 0, none⟩), .int .i64 k] w (Gives fun v w' => ∃ c, v = .int .u16 c ∧ Held W b (B.failed k) L lv p w') := by
  obtain ⟨F, hb, hF, hst⟩ := h.step
  exact Gives.imp (bfail_any hb k hs.list) fun v w' hg => ⟨_, hg.1, hst _ _ hg.2⟩
theorem Held.wear (h : Held W b B L lv p w) (k n : Int) (hn : n ≤ 9223372036854775807) : Calls Try.prog 26 #[.pointer (some ⟨b, 0, none⟩), .int .i64 k, .int .i64 n] w (Gives fun v w' => ∃ c, v = .int .u16 c ∧ Held W b (B.wear k n) L lv p w') := by
  obtain ⟨F, hb, hF, hst⟩ := h.step
  exact Gives.imp (wear_any hb k n hn) fun v w' hg => ⟨_, hg.1, hst _ _ hg.2⟩
theorem Held.swap (h : Held W b B L lv p w) (k n : Int) : Calls Try.prog 48 #[.pointer (some ⟨b, 0, none⟩), .int .i64 k, .int .i64 n] w (Gives fun v w' => ∃ c, v = .int .u16 c ∧ Held W b (B.swap k n) L lv p w') := by
  obtain ⟨F, hb, hF, hst⟩ := h.step
  exact Gives.imp (swap_any hb k n) fun v w' hg => by
    obtain ⟨c, e1, e2⟩ := hg
    exact ⟨c, e1, hst _ _ e2⟩
theorem Held.load (h : Held W b B L lv p w) (k : Int) {v : Value} {l : List Int} (hv : BytesAt W v l) : Calls Try.prog 49 #[.pointer (some ⟨b, 0, none⟩), .int .i64 k, v] w (Gives fun v w' => ∃ c, v = .int .u16 c ∧ Held W b (B.load k l) L lv p w') := by
  have ho := Many.old h.1
  obtain ⟨F, hb, hF, hst⟩ := h.step
  exact Gives.imp (bload_any hb k (hv.old ho)) fun v w' hg => by
    obtain ⟨c, e1, e2⟩ := hg
    exact ⟨c, e1, hst _ _ e2⟩
theorem Held.pull (h : Held W b B L lv p w) (hs : B.Small 1000000) (k : Int) : Calls Try.prog 44 #[.pointer (some ⟨b, 0, none⟩), .int .i64 k] w (Gives fun v w' => ∃ c, v = .int .u16 c ∧ Held W b (B.pull k) L lv p w') := by
  obtain ⟨F, hb, hF, hst⟩ := h.step
  exact Gives.imp (pull_any hb k hs.list) fun v w' hg => ⟨_, hg.1, hst _ _ hg.2⟩
theorem Held.push (h : Held W b B L lv p w) (k : Int) : Calls Try.prog 46 #[.pointer (some ⟨b, 0, none⟩), .int .i64 k] w (Gives fun v w' => ∃ c, v = .int .u16 c ∧ Held W b (B.push k) L lv p w') := by
  obtain ⟨F, hb, hF, hst⟩ := h.step
  exact Gives.imp (push_any hb k) fun v w' hg => ⟨_, hg.1, hst _ _ hg.2⟩
end
/-- How far BaySlots' loop has come. -/
def SlotsAt (W : World) (b s n : Nat) (e : Option Dev) (L : List (Value × List Int)) (lv : Value) (p : List Int) (i : Nat) (w : World) : Prop := ∃ B, Held W b B L lv p w ∧ Slots s n e B ∧ B.Small (i + 1)
def xs77 : List Int := (List.replicate 128 0).set 9 77

/-- One round's calls. -/
structure RoundFacts (W : World) (b s n : Nat) (e : Option Dev) (L : List (Value × List Int)) (lv : Value) (p : List Int) (i : Nat) (d : OpD) (wa : World) : Prop where
  plain : Calls Try.prog 28 #[.pointer (some ⟨b, 0, none⟩), .agg (opCells d).toArray] wa (Gives fun v w' => ∃ s0 c, v = .tuple #[s0, .int .u16 c] ∧ SlotsAt W b s n e L lv p (i + 1) w')
  fail : Calls Try.prog 43 #[.pointer (some ⟨b, 0, none⟩), .int .i64 d.slot] wa (Gives fun v w' => ∃ c, v = .int .u16 c ∧ SlotsAt W b s n e L lv p (i + 1) w')
  wear : Calls Try.prog 26 #[.pointer (some ⟨b, 0, none⟩), .int .i64 d.slot, .int .i64 d.n] wa (Gives fun v w' => ∃ c, v = .int .u16 c ∧ SlotsAt W b s n e L lv p (i + 1) w')
  swap : Calls Try.prog 48 #[.pointer (some ⟨b, 0, none⟩), .int .i64 d.slot, .int .i64 d.n] wa (Gives fun v w' => ∃ c, v = .int .u16 c ∧ SlotsAt W b s n e L lv p (i + 1) w')
  load : Calls Try.prog 49 #[.pointer (some ⟨b, 0, none⟩), .int .i64 d.slot, d.bv] wa (Gives fun v w' => ∃ c, v = .int .u16 c ∧ SlotsAt W b s n e L lv p (i + 1) w')
  pull : Calls Try.prog 44 #[.pointer (some ⟨b, 0, none⟩), .int .i64 d.slot] wa (Gives fun v w' => ∃ c, v = .int .u16 c ∧ SlotsAt W b s n e L lv p (i + 1) w')
  push : Calls Try.prog 46 #[.pointer (some ⟨b, 0, none⟩), .int .i64 d.slot] wa (Gives fun v w' => ∃ c, v = .int .u16 c ∧ SlotsAt W b s n e L lv p (i + 1) w')
theorem slots_round {W : World} {b s n : Nat} {e : Option Dev} {L : List (Value × List Int)} {lv : Value} {p : List Int} {i : Nat} {d : OpD} {w wa : World} (h : SlotsAt W b s n e L lv p i w) (hk : Keep NoF w wa) (hd : OpAt W d) (hne : d.slot ≠ (s : Int)) (hi : i ≤ 100000) : RoundFacts W b s n e L lv p i d wa := by
  obtain ⟨B, hm0, hsl, hS⟩ := h
  have hm := hm0.quiet hk
  have hS6 := hS.mono (m' := 1000000) (by omega)
  have hS1 := hS.mono (m' := ((i + 1 : Nat) : Int) + 1) (by omega)
  refine ⟨?_, ?_, ?_, ?_, ?_, ?_, ?_⟩
  · exact Gives.imp (hm.plain hS6 d hd) fun v w' hg => by
      obtain ⟨s0, c, e1, e2⟩ := hg
      exact ⟨s0, c, e1, _, e2, by rw [plain_op]; exact slots_op hsl hne _ _, (Small.plain hS d).mono (by omega)⟩
  · exact Gives.imp (hm.fail hS6 d.slot) fun v w' hg => by
      obtain ⟨c, e1, e2⟩ := hg
      exact ⟨c, e1, _, e2, slots_failed hsl hne, Small.failed hS1 (by omega) _⟩
  · exact Gives.imp (hm.wear d.slot d.n hd.n.2) fun v w' hg => by
      obtain ⟨c, e1, e2⟩ := hg
      exact ⟨c, e1, _, e2, slots_wear hsl hne _, Small.wear hS1 _ _⟩
  · exact Gives.imp (hm.swap d.slot d.n) fun v w' hg => by
      obtain ⟨c, e1, e2⟩ := hg
      refine ⟨c, e1, _, e2, ?_, ?_⟩
      · unfold By.swap; split
        · exact hsl
        · exact slots_lay hsl hne _
      · unfold By.swap; split
        · exact hS1
        · exact Small.lay hS1 (by omega) _ _ fun x hx => by
            split at hx
            · obtain rfl := (Option.some.inj hx).symm; rfl
            · cases hx
  · exact Gives.imp (hm.load d.slot hd.b) fun v w' hg => by
      obtain ⟨c, e1, e2⟩ := hg
      exact ⟨c, e1, _, e2, slots_lay hsl hne _, Small.lay hS1 (by omega) _ _ fun x hx => by
        split at hx
        · obtain rfl := (Option.some.inj hx).symm; rfl
        · cases hx⟩
  · exact Gives.imp (hm.pull hS6 d.slot) fun v w' hg => by
      obtain ⟨c, e1, e2⟩ := hg
      exact ⟨c, e1, _, e2, slots_pull hsl hne, Small.pull hS1 (by omega) _⟩
  · exact Gives.imp (hm.push d.slot) fun v w' hg => by
      obtain ⟨c, e1, e2⟩ := hg
      exact ⟨c, e1, _, e2, slots_push hsl hne, Small.push hS1 _⟩
end Go.Proofs.Ytghnbbpoaeheaaa
