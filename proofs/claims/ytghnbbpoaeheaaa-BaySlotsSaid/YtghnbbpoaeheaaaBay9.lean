/- A script as it lies in memory; much, walked. -/
import Derived.Test.YtghnbbpoaeheaaaBay8
namespace Go.Proofs.Ytghnbbpoaeheaaa
open Go.RowKit

/-- What was there stands; only what came later may have turned. -/
def Old (W : World) : Nat → Prop := fun x => W.heap.size ≤ x
theorem Keep.cell {G : Nat → Prop} {w w' : World} (hk : Keep G w w') {a : Addr} {v : Value} (h : w.cell? a = some v) (hn : ¬ G a.block) : w'.cell? a = some v := by
  rw [World.cell?_of_block (w := w) (hk.block _ (World.block_lt_of_cell? w _ h) hn)]; exact h
theorem Keep.old {W w : World} (hk : Keep (Old W) W w) {a : Addr} {v : Value} (h : W.cell? a = some v) : w.cell? a = some v :=
  hk.cell h (fun hx => by have := World.block_lt_of_cell? W _ h; have : W.heap.size ≤ a.block := hx; omega)
theorem Keep.oldRange {W w : World} (hk : Keep (Old W) W w) {b o : Nat} {l : List Value} (h : W.rangeAt b o l) : w.rangeAt b o l := fun j u hu => hk.old (h j u hu)
theorem BytesAt.old {W w : World} {v : Value} {l : List Int} (h : BytesAt W v l) (hk : Keep (Old W) W w) : BytesAt w v l := by
  obtain ⟨a, cap, hv, h1, h2, h3⟩ := h
  exact ⟨a, cap, hv, h1, h2, fun hl => by obtain ⟨bb, o, ha, hr⟩ := h3 hl; exact ⟨bb, o, ha, hk.oldRange hr⟩⟩
theorem IntsAt.old {W w : World} {v : Value} {l : List Int} (h : IntsAt W v l) (hk : Keep (Old W) W w) : IntsAt w v l := by
  obtain ⟨a, cap, hv, h1, h3⟩ := h
  exact ⟨a, cap, hv, h1, fun hl => by obtain ⟨bb, o, ha, hr⟩ := h3 hl; exact ⟨bb, o, ha, hk.oldRange hr⟩⟩
theorem BoolsAt.old {W w : World} {v : Value} {l : List Bool} (h : BoolsAt W v l) (hk : Keep (Old W) W w) : BoolsAt w v l := by
  obtain ⟨a, cap, hv, h1, h3⟩ := h
  exact ⟨a, cap, hv, h1, fun hl => by obtain ⟨bb, o, ha, hr⟩ := h3 hl; exact ⟨bb, o, ha, hk.oldRange hr⟩⟩

/-- What no slice that came in is longer than. -/
def far : Nat := 140737488351232
def KeepsAt (w : World) (v : Value) (l : List (Value × List Bool)) : Prop :=
  ∃ a cap, v = .slice a l.length cap ∧ l.length ≤ far ∧ (l ≠ [] → ∃ bb o, a = some ⟨bb, o, none⟩ ∧ w.rangeAt bb o (l.map (·.1))) ∧ ∀ x ∈ l, BoolsAt w x.1 x.2 ∧ x.2.length ≤ far
theorem KeepsAt.old {W w : World} {v : Value} {l : List (Value × List Bool)} (h : KeepsAt W v l) (hk : Keep (Old W) W w) : KeepsAt w v l := by
  obtain ⟨a, cap, hv, h1, h3, h4⟩ := h
  exact ⟨a, cap, hv, h1, fun hl => by obtain ⟨bb, o, ha, hr⟩ := h3 hl; exact ⟨bb, o, ha, hk.oldRange hr⟩, fun x hx => ⟨(h4 x hx).1.old hk, (h4 x hx).2⟩⟩

/-- An operation of a script. -/
structure OpD where
  kind : Int
  slot : Int
  n : Int
  bv : Value
  bl : List Int
  kv : Value
  kl : List (Value × List Bool)
def inI64 (i : Int) : Prop := -9223372036854775808 ≤ i ∧ i ≤ 9223372036854775807
structure OpAt (w : World) (d : OpD) : Prop where
  kind : inI64 d.kind
  slot : inI64 d.slot
  n : inI64 d.n
  b : BytesAt w d.bv d.bl
  bl : d.bl.length ≤ far
  k : KeepsAt w d.kv d.kl
theorem OpAt.old {W w : World} {d : OpD} (h : OpAt W d) (hk : Keep (Old W) W w) : OpAt w d := ⟨h.kind, h.slot, h.n, h.b.old hk, h.bl, h.k.old hk⟩
def opCells (d : OpD) : List Value := [.int .i64 d.kind, .int .i64 d.slot, .int .i64 d.n, d.bv, d.kv]
def OpsAt (w : World) (v : Value) (l : List OpD) : Prop :=
  ∃ a cap, v = .slice a l.length cap ∧ l.length ≤ far ∧ (l ≠ [] → ∃ bb o, a = some ⟨bb, o, none⟩ ∧ ∀ i d, l[i]? = some d → w.rangeAt bb (o + i * 5) (opCells d)) ∧ ∀ d ∈ l, OpAt w d
theorem OpsAt.old {W w : World} {v : Value} {l : List OpD} (h : OpsAt W v l) (hk : Keep (Old W) W w) : OpsAt w v l := by
  obtain ⟨a, cap, hv, h1, h3, h4⟩ := h
  exact ⟨a, cap, hv, h1, fun hl => by obtain ⟨bb, o, ha, hr⟩ := h3 hl; exact ⟨bb, o, ha, fun i d hd => hk.oldRange (hr i d hd)⟩, fun x hx => (h4 x hx).old hk⟩
theorem Keep.toOld {w w' : World} {G : Nat → Prop} {W : World} (h : Keep G w w') (hG : ∀ x, x < w.heap.size → G x → W.heap.size ≤ x) : Keep (Old W) w w' := h.mono fun x hx hg => hG x hx hg
theorem Keep.ofNoF {W w w' : World} (hk : Keep (Old W) W w) (h : Keep NoF w w') : Keep (Old W) W w' := hk.trans' (h.mono fun _ _ h => h.elim)

def MuchPost (W : World) (n : Nat) (v : Value) (w' : World) : Prop := ∃ c, v = .bool c ∧ Keep NoF W w' ∧ (c = false → n ≤ 100000)
set_option maxRecDepth 100000 in
set_option maxHeartbeats 4000000 in
theorem much_any {W : World} {sv ov : Value} {sizes : List Int} {ops : List OpD} (hs : IntsAt W sv sizes) (hsl : sizes.length ≤ far) (hsi : ∀ s ∈ sizes, inI64 s) (ho : OpsAt W ov ops) :
    Calls Try.prog 23 #[sv, ov] W (Gives (MuchPost W (ops.length + sizes.length))) := by
  obtain ⟨sa, sc, rfl, _, hsr⟩ := hs
  obtain ⟨oa, oc, rfl, hol, hor, hop⟩ := ho
  unfold far at hsl hol
  have HSR := Lib.hid hsr
  have HSI := Lib.hid hsi
  have HOR := Lib.hid hor
  have HOP := Lib.hid hop
  clear hsr hor hop hsi
  go_enter Try.func23, Try.ntmps23
  go_wp2
  go_loopw [6, 7] (fun m t wr => ∃ (i : Nat) (mm : Int), i ≤ sizes.length ∧ t = .int .i64 i ∧ m = .int .i64 mm ∧ 0 ≤ mm ∧ mm ≤ 8192 ∧ W = wr) (fun _ t _ => sizes.length - (intOf t).toNat)
  case atStart => exact ⟨0, 0, Nat.zero_le _, rfl, rfl, by omega, by omega, rfl⟩
  case round =>
    obtain ⟨i, mm, hi, rfl, rfl, h0, h1, rfl⟩ := hrel
    by_cases hlt : i < sizes.length
    · obtain ⟨x, hx⟩ : ∃ x, sizes[i]? = some x := ⟨_, List.getElem?_eq_getElem hlt⟩
      obtain ⟨bb, o, rfl, hr⟩ := HSR.out (by rintro rfl; simp at hlt)
      have hc1 : W.cell? ⟨bb, o + i, none⟩ = some (.int .i64 x) := hr i (.int .i64 x) (by simp [ints, hx])
      obtain ⟨hx1, hx2⟩ := HSI.out x (List.mem_of_getElem? hx)
      clear hr hx
      by_cases hg : i < 64
      · go_wp2
        refine ⟨⟨i + 1, _, by omega, by go_num, rfl, ?_, ?_, trivial⟩, by simp [intOf]; omega⟩
        · split <;> split <;> omega
        · split <;> split <;> omega
      · go_wp2
        go_loopw [5, 8] (fun m t wr => ∃ (i : Nat) (n : Int), i ≤ ops.length ∧ t = .int .i64 i ∧ m = .int .i64 n ∧ (ops.length + sizes.length : Int) ≤ n ∧ n ≤ 1000000000000000 ∧ Keep NoF W wr) (fun _ t _ => ops.length - (intOf t).toNat)
        case atStart => exact ⟨0, _, Nat.zero_le _, rfl, rfl, Int.le_refl _, by omega, Keep.refl _ _⟩
        case round =>
          obtain ⟨i2, n, hi2, rfl, rfl, hn0, hn1, hkeep⟩ := hrel
          by_cases hlt2 : i2 < ops.length
          · by_cases hg2 : n ≤ 100000
            · obtain ⟨d, hd⟩ : ∃ d, ops[i2]? = some d := ⟨_, List.getElem?_eq_getElem hlt2⟩
              obtain ⟨bb, o, rfl, hr⟩ := HOR.out (by rintro rfl; simp at hlt2)
              have hop := HOP.out d (List.mem_of_getElem? hd)
              have hr := hr i2 d hd
              obtain ⟨ba, bcap, hbv, -, -, -⟩ := hop.b
              obtain ⟨ka, kcap, hkv, hkf, hkr, hkk⟩ := hop.k
              have hbf := hop.bl
              unfold far at hkf hbf
              have hcK : Hid (∀ w', Keep NoF W w' → w'.cell? ⟨bb, o + i2 * 5, none⟩ = some (.int .i64 d.kind) ∧ w'.cell? ⟨bb, o + i2 * 5 + 3, none⟩ = some (.slice ba d.bl.length bcap) ∧ w'.cell? ⟨bb, o + i2 * 5 + 4, none⟩ = some (.slice ka d.kl.length kcap)) := fun w' hk => by
                refine ⟨hk.cell (hr 0 _ rfl) (fun h => h), ?_, ?_⟩
                · rw [← hbv]; exact hk.cell (hr 3 _ rfl) (fun h => h)
                · rw [← hkv]; exact hk.cell (hr 4 _ rfl) (fun h => h)
              obtain ⟨q0, q3, q4⟩ := hcK.out _ hkeep
              clear hr hop hd
              go_wp2
              go_quiet (fail)
              obtain ⟨q0, q3, q4⟩ := hcK.out _ (hkeep.trans' (Keep.drewN _ _ nq))
              have HK : Hid (Keep NoF W (wr.drewN nq)) := hkeep.trans' (Keep.drewN _ _ nq)
              have HKR := Lib.hid hkr
              clear hkr
              cases hb12 : (d.kind == 12)
              all_goals
                go_wp2
                go_loopw [5, 9] (fun m t wr => ∃ (j : Nat) (n : Int), j ≤ d.kl.length ∧ t = .int .i64 j ∧ m = .int .i64 n ∧ (ops.length + sizes.length : Int) ≤ n ∧ n ≤ 1000000000000000 ∧ Keep NoF W wr) (fun _ t _ => d.kl.length - (intOf t).toNat)
                case atStart => exact ⟨0, _, Nat.zero_le _, rfl, rfl, by omega, by omega, HK.out⟩
                case round =>
                  obtain ⟨j, n3, hj, rfl, rfl, hm0, hm1, hkeep3⟩ := hrel
                  obtain ⟨q0, q3, q4⟩ := hcK.out _ hkeep3
                  by_cases hlt3 : j < d.kl.length
                  · by_cases hg3 : n3 ≤ 100000
                    · obtain ⟨x3, hx3⟩ : ∃ x, d.kl[j]? = some x := ⟨_, List.getElem?_eq_getElem hlt3⟩
                      obtain ⟨kb, ko, rfl, hkr⟩ := HKR.out (by rintro h; rw [h] at hlt3; simp at hlt3)
                      obtain ⟨⟨xa, xc, hxv, -, -⟩, hxl⟩ := hkk x3 (List.mem_of_getElem? hx3)
                      unfold far at hxl
                      have hc3 : wr.cell? ⟨kb, ko + j, none⟩ = some (.slice xa x3.2.length xc) := by
                        rw [← hxv]; exact hkeep3.cell (hkr j x3.1 (by simp [hx3])) (fun h => h)
                      clear hkr hx3
                      go_wp2
                      exact ⟨⟨j + 1, _, by omega, by go_num, rfl, by omega, by omega, hkeep3⟩, by simp [intOf]; omega⟩
                    · go_wp2
                      exact ⟨⟨i2 + 1, _, by omega, by go_num, rfl, by omega, by omega, hkeep3⟩, by simp [intOf]; omega⟩
                  · by_cases hg3 : n3 ≤ 100000
                    · go_wp2
                      exact ⟨⟨i2 + 1, _, by omega, by go_num, rfl, by omega, by omega, hkeep3⟩, by simp [intOf]; omega⟩
                    · go_wp2
                      exact ⟨⟨i2 + 1, _, by omega, by go_num, rfl, by omega, by omega, hkeep3⟩, by simp [intOf]; omega⟩
            · clear hn1
              go_wp2
              go_ret
              exact ⟨_, rfl, true, rfl, hkeep, fun h => by cases h⟩
          · obtain rfl : i2 = ops.length := by omega
            by_cases hg2 : n ≤ 100000
            · go_wp2
              go_ret
              exact ⟨_, rfl, decide (100000 < n), rfl, hkeep, fun h => by simp at h; omega⟩
            · go_wp2
              go_ret
              exact ⟨_, rfl, true, rfl, hkeep, fun h => by cases h⟩
    · obtain rfl : i = sizes.length := by omega
      go_wp2
      go_loopw [5, 8] (fun m t wr => ∃ (i : Nat) (n : Int), i ≤ ops.length ∧ t = .int .i64 i ∧ m = .int .i64 n ∧ (ops.length + sizes.length : Int) ≤ n ∧ n ≤ 1000000000000000 ∧ Keep NoF W wr) (fun _ t _ => ops.length - (intOf t).toNat)
      case atStart => exact ⟨0, _, Nat.zero_le _, rfl, rfl, Int.le_refl _, by omega, Keep.refl _ _⟩
      case round =>
        obtain ⟨i2, n, hi2, rfl, rfl, hn0, hn1, hkeep⟩ := hrel
        by_cases hlt2 : i2 < ops.length
        · by_cases hg2 : n ≤ 100000
          · obtain ⟨d, hd⟩ : ∃ d, ops[i2]? = some d := ⟨_, List.getElem?_eq_getElem hlt2⟩
            obtain ⟨bb, o, rfl, hr⟩ := HOR.out (by rintro rfl; simp at hlt2)
            have hop := HOP.out d (List.mem_of_getElem? hd)
            have hr := hr i2 d hd
            obtain ⟨ba, bcap, hbv, -, -, -⟩ := hop.b
            obtain ⟨ka, kcap, hkv, hkf, hkr, hkk⟩ := hop.k
            have hbf := hop.bl
            unfold far at hkf hbf
            have hcK : Hid (∀ w', Keep NoF W w' → w'.cell? ⟨bb, o + i2 * 5, none⟩ = some (.int .i64 d.kind) ∧ w'.cell? ⟨bb, o + i2 * 5 + 3, none⟩ = some (.slice ba d.bl.length bcap) ∧ w'.cell? ⟨bb, o + i2 * 5 + 4, none⟩ = some (.slice ka d.kl.length kcap)) := fun w' hk => by
              refine ⟨hk.cell (hr 0 _ rfl) (fun h => h), ?_, ?_⟩
              · rw [← hbv]; exact hk.cell (hr 3 _ rfl) (fun h => h)
              · rw [← hkv]; exact hk.cell (hr 4 _ rfl) (fun h => h)
            obtain ⟨q0, q3, q4⟩ := hcK.out _ hkeep
            clear hr hop hd
            go_wp2
            go_quiet (fail)
            obtain ⟨q0, q3, q4⟩ := hcK.out _ (hkeep.trans' (Keep.drewN _ _ nq))
            have HK : Hid (Keep NoF W (wr.drewN nq)) := hkeep.trans' (Keep.drewN _ _ nq)
            have HKR := Lib.hid hkr
            clear hkr
            cases hb12 : (d.kind == 12)
            all_goals
              go_wp2
              go_loopw [5, 9] (fun m t wr => ∃ (j : Nat) (n : Int), j ≤ d.kl.length ∧ t = .int .i64 j ∧ m = .int .i64 n ∧ (ops.length + sizes.length : Int) ≤ n ∧ n ≤ 1000000000000000 ∧ Keep NoF W wr) (fun _ t _ => d.kl.length - (intOf t).toNat)
              case atStart => exact ⟨0, _, Nat.zero_le _, rfl, rfl, by omega, by omega, HK.out⟩
              case round =>
                obtain ⟨j, n3, hj, rfl, rfl, hm0, hm1, hkeep3⟩ := hrel
                obtain ⟨q0, q3, q4⟩ := hcK.out _ hkeep3
                by_cases hlt3 : j < d.kl.length
                · by_cases hg3 : n3 ≤ 100000
                  · obtain ⟨x3, hx3⟩ : ∃ x, d.kl[j]? = some x := ⟨_, List.getElem?_eq_getElem hlt3⟩
                    obtain ⟨kb, ko, rfl, hkr⟩ := HKR.out (by rintro h; rw [h] at hlt3; simp at hlt3)
                    obtain ⟨⟨xa, xc, hxv, -, -⟩, hxl⟩ := hkk x3 (List.mem_of_getElem? hx3)
                    unfold far at hxl
                    have hc3 : wr.cell? ⟨kb, ko + j, none⟩ = some (.slice xa x3.2.length xc) := by
                      rw [← hxv]; exact hkeep3.cell (hkr j x3.1 (by simp [hx3])) (fun h => h)
                    clear hkr hx3
                    go_wp2
                    exact ⟨⟨j + 1, _, by omega, by go_num, rfl, by omega, by omega, hkeep3⟩, by simp [intOf]; omega⟩
                  · go_wp2
                    exact ⟨⟨i2 + 1, _, by omega, by go_num, rfl, by omega, by omega, hkeep3⟩, by simp [intOf]; omega⟩
                · by_cases hg3 : n3 ≤ 100000
                  · go_wp2
                    exact ⟨⟨i2 + 1, _, by omega, by go_num, rfl, by omega, by omega, hkeep3⟩, by simp [intOf]; omega⟩
                  · go_wp2
                    exact ⟨⟨i2 + 1, _, by omega, by go_num, rfl, by omega, by omega, hkeep3⟩, by simp [intOf]; omega⟩
          · clear hn1
            go_wp2
            go_ret
            exact ⟨_, rfl, true, rfl, hkeep, fun h => by cases h⟩
        · obtain rfl : i2 = ops.length := by omega
          by_cases hg2 : n ≤ 100000
          · go_wp2
            go_ret
            exact ⟨_, rfl, decide (100000 < n), rfl, hkeep, fun h => by simp at h; omega⟩
          · go_wp2
            go_ret
            exact ⟨_, rfl, true, rfl, hkeep, fun h => by cases h⟩
end Go.Proofs.Ytghnbbpoaeheaaa
