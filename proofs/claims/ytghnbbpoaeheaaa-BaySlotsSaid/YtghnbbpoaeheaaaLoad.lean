/- The disk's functions, walked: Load. -/
import Derived.Test.YtghnbbpoaeheaaaCutsLaw
import Derived.Laws.CopyOwn
import Derived.StillTailTactics
import Derived.IntWalk
namespace Go.Proofs.Ytghnbbpoaeheaaa
open Go.RowKit

def Dk.of (l : List Int) : Dk := { las := (List.range (l.length / 128)).map (sector l), cache := [], failed := false }
def loadOk (l : List Int) : Prop := l.length % 128 = 0 ∧ 1 ≤ l.length / 128 ∧ l.length / 128 ≤ 8192
instance (l : List Int) : Decidable (loadOk l) := inferInstanceAs (Decidable (_ ∧ _))
/-- The sectors behind i copies. -/
def loaded (l : List Int) (m i : Nat) : List (List Int) := (List.range m).map fun j => if j < i then sector l j else List.replicate 128 0
theorem loaded_zero (l : List Int) (m : Nat) : loaded l m 0 = List.replicate m (List.replicate 128 0) := by
  unfold loaded
  apply List.ext_getElem
  · simp
  · intro j h1 h2; simp
theorem loaded_all (l : List Int) (m : Nat) : loaded l m m = (List.range m).map (sector l) := by
  unfold loaded
  refine List.map_congr_left fun j hj => ?_
  rw [if_pos (List.mem_range.1 hj)]
theorem loaded_succ (l : List Int) {m i : Nat} : loaded l m (i + 1) = (loaded l m i).set i (sector l i) := by
  unfold loaded
  apply List.ext_getElem
  · simp
  · intro j h1 h2
    rw [List.getElem_set]
    by_cases e : i = j
    · subst e; simp
    · rw [if_neg e]
      simp only [List.getElem_map, List.getElem_range]
      by_cases h : j < i
      · rw [if_pos h, if_pos (by omega)]
      · rw [if_neg h, if_neg (by omega)]
theorem loaded_sec (l : List Int) {m i : Nat} (hm : 128 * m ≤ l.length) : ∀ s ∈ loaded l m i, s.length = 128 := by
  intro s hs
  unfold loaded at hs
  obtain ⟨j, hj, rfl⟩ := List.mem_map.1 hs
  have hj := List.mem_range.1 hj
  split
  · unfold sector; simp; omega
  · simp
theorem las_splice {las : List (List Int)} {k : Nat} {d : List Int} (h : ∀ s ∈ las, s.length = 128) (hk : k < las.length) :
    (lasCells las).take (k * 128) ++ (u8s d ++ (lasCells las).drop (k * 128 + 128)) = lasCells (las.set k d) := by
  have e2 : las.set k d = las.take k ++ [d] ++ las.drop (k + 1) := by
    rw [List.set_eq_take_append_cons_drop, if_pos hk]; simp
  have hl : (lasCells (las.take k)).length = k * 128 := by
    rw [length_lasCells (fun s hs => h s (List.mem_of_mem_take hs)), List.length_take, Nat.min_eq_left (Nat.le_of_lt hk)]
  have hl2 : (lasCells (las.take (k + 1))).length = k * 128 + 128 := by
    rw [length_lasCells (fun s hs => h s (List.mem_of_mem_take hs)), List.length_take, Nat.min_eq_left hk]; omega
  have e3 : lasCells las = lasCells (las.take k) ++ lasCells (las.drop k) := by rw [← lasCells_append, List.take_append_drop]
  have e4 : lasCells las = lasCells (las.take (k + 1)) ++ lasCells (las.drop (k + 1)) := by rw [← lasCells_append, List.take_append_drop]
  have a1 : (lasCells las).take (k * 128) = lasCells (las.take k) := by rw [e3, ← hl, List.take_left']; rfl
  have a2 : (lasCells las).drop (k * 128 + 128) = lasCells (las.drop (k + 1)) := by rw [e4, ← hl2, List.drop_left']; rfl
  have hd1 : lasCells [d] = u8s d := by simp [lasCells]
  rw [a1, a2, e2, lasCells_append, lasCells_append, hd1, List.append_assoc]

theorem size5 : (Try.prog.info? 5).map (·.size) = some 1 := by kernel_rfl
/-- A new disk whose sectors are being written. -/
theorem new_lies {w1 : World} {d : Nat} {F : Nat → Prop} {m : Nat} (h : DiskAt w1 d (Dk.new m) F) :
    ∃ bL, w1.cell? ⟨d, 0, none⟩ = some (.slice (some ⟨bL, 0, none⟩) m m) ∧ d ≠ bL ∧ F bL ∧ w1.heap[bL]? = some (.cells (lasCells (List.replicate m (List.replicate 128 0))).toArray 102 (0, 0)) ∧
      ∀ (las : List (List Int)) wr, las.length = m → (∀ s ∈ las, s.length = 128) → Settling w1 bL las wr → DiskAt wr d { las := las, cache := [], failed := false } F := by
  obtain ⟨bL, bS, csl, es, ck, h1, h2, h3, h4, h5, hF, ok⟩ := h
  have hm : (Dk.new m).las.length = m := by simp [Dk.new]
  rw [hm] at h1
  have hne : d ≠ bL := ne_of_elem h1 h2 (by decide)
  refine ⟨bL, cell_at h1 0 rfl, hne, (hF bL).2 (.inr (.inl rfl)), h2, fun las wr hl hs hset => ?_⟩
  obtain ⟨g1, g2⟩ := hset
  have ok1 := ok.pos
  have ok2 := ok.le
  rw [hm] at ok1 ok2
  refine ⟨bL, bS, csl, es, ck, by rw [hl]; exact g1.at h1 hne, g2, g1.at h3 (fun e => by have e : bS = bL := e; subst e; rw [h2] at h3; simp at h3), h4, ownsRow_keep h5 g1 (fun x hx e => ?_), hF, ⟨by rw [hl]; exact ok1, by rw [hl]; exact ok2, hs, fun e he => (by cases he), fun h => (by cases h)⟩⟩
  have e : x = bL := e
  subst e
  obtain ⟨cs, hcs⟩ := own_elem h5 hx
  rw [h2] at hcs
  simp at hcs
/-- What Load leaves. -/
def LoadPost (w : World) (l : List Int) (v : Value) (w' : World) : Prop := if loadOk l then NewDisk w (Dk.of l) v w' else v = .tuple #[.pointer none, .int .u16 40] ∧ w = w'

set_option maxRecDepth 100000 in
set_option maxHeartbeats 2000000 in
theorem load_ok (w : World) (bb o cap : Nat) (l : List Int) (hok : loadOk l) (hm : l.length ≤ cap) (hcap : cap ≤ maxLen) (hr : w.rangeAt bb o (u8s l)) :
    Calls Try.prog 12 #[.slice (some ⟨bb, o, none⟩) l.length cap] w (Gives (NewDisk w (Dk.of l))) := by
  obtain ⟨k1, k2, k3⟩ := hok
  obtain ⟨m, hm1⟩ : ∃ m, m = l.length / 128 := ⟨_, rfl⟩
  obtain ⟨n, hn⟩ : ∃ n, n = l.length := ⟨_, rfl⟩
  rw [← hn] at hm k1 k2 k3 hm1 ⊢
  have hnm : n = 128 * m := by omega
  have ht1 : Int.tmod (n : Int) 128 = 0 := by show ((n % 128 : Nat) : Int) = 0; omega
  have ht2 : Int.tdiv (n : Int) 128 = m := by show ((n / 128 : Nat) : Int) = m; omega
  have HNW := Lib.hid (new_ok m w (by omega) (by omega))
  have HR := Lib.hid hr
  have HNM : Hid (l.length = 128 * m) := by show _ = _; omega
  have hm3 : m ≤ 8192 := by omega
  have hcm : 128 * m ≤ cap := by omega
  unfold maxLen at hcap
  have HDM : Hid (Dk.of l = { las := loaded l m m, cache := [], failed := false }) := by
    show _ = _
    unfold Dk.of
    rw [loaded_all, hm1, hn]
  have hn2 : n ≤ cap := hm
  have hm4 : 1 ≤ m := by omega
  clear hr hn k1 k2 k3 hm1 hm
  have HLZ : Hid (∀ (w1 : World) (d : Nat) (F : Nat → Prop), DiskAt w1 d (Dk.new m) F → ∃ bL, w1.cell? ⟨d, 0, none⟩ = some (.slice (some ⟨bL, 0, none⟩) m m) ∧ d ≠ bL ∧ F bL ∧ Hid (Settling w1 bL (loaded l m 0) w1) ∧
      Hid (∀ wr, Settling w1 bL (loaded l m m) wr → DiskAt wr d { las := loaded l m m, cache := [], failed := false } F)) := fun w1 d F h => by
    obtain ⟨bL, q1, q2, q3, q4, q5⟩ := new_lies h
    exact ⟨bL, q1, q2, q3, ⟨Keep.refl _ _, by rw [loaded_zero]; exact q4⟩, fun wr hset => q5 _ wr (by simp [loaded]) (loaded_sec l (by have := HNM.out; omega)) hset⟩
  have HST : Hid (∀ (w1 wr : World) (bL i : Nat), i < m → Settling w1 bL (loaded l m i) wr → wr.heap[bL]? = some (.cells (lasCells (loaded l m i)).toArray 102 (0, 0)) ∧
      ((u8s (sector l i)).length = 128) ∧ (lasCells (loaded l m i)).toArray.size = 128 * m ∧
      Settling w1 bL (loaded l m (i + 1)) (wr.setRow bL ((lasCells (loaded l m i)).toArray.toList.take (i * 128) ++ (u8s (sector l i) ++ (lasCells (loaded l m i)).toArray.toList.drop (i * 128 + (u8s (sector l i)).length))).toArray)) := fun w1 wr bL i hi hset => by
    have hl := HNM.out
    have hs := loaded_sec l (m := m) (i := i) (by omega)
    have hsl : (sector l i).length = 128 := by unfold sector; simp; omega
    have hlen : (loaded l m i).length = m := by simp [loaded]
    refine ⟨hset.2, by rw [length_u8s]; exact hsl, by rw [List.size_toArray, length_lasCells hs, hlen]; omega, hset.1.trans' (Keep.setRow (F := (· = bL)) wr bL _ rfl), ?_⟩
    rw [setRow_heap wr bL _ _ _ _ hset.2, List.toList_toArray, length_u8s, hsl, las_splice hs (by omega), ← loaded_succ]
  go_enter Try.func12, Try.ntmps12
  go_wp2_with (go_at_call 35; go_must (refine HNW.out.mono ?_); rintro e w1 ⟨v, rfl, d, F, rfl, hq⟩; have HQ := Lib.hid hq; obtain ⟨bL, q1, q2, q3, Q4, Q5⟩ := HLZ.out w1 d F hq.1; clear hq)
  clear HNW HLZ
  go_loopw [26] (fun t wr => ∃ i : Nat, i ≤ m ∧ t = .int .i64 i ∧ Settling w1 bL (loaded l m i) wr) (fun t _ => m - (intOf t).toNat)
  case atStart => exact ⟨0, Nat.zero_le _, rfl, Q4.out⟩
  case round =>
    obtain ⟨i, hi, rfl, hset⟩ := hrel
    by_cases hlt : i < m
    · have hc : wr.cell? ⟨d, 0, none⟩ = some (.slice (some ⟨bL, 0, none⟩) m m) := hset.1.cell q1 q2
      have hsetd : Settling w1 bL (loaded l m i) wr.drew := ⟨hset.1.trans' (Keep.drew _ _), hset.2⟩
      obtain ⟨r1, r2, r3, r4⟩ := HST.out w1 wr.drew bL i hlt hsetd
      have R1 := Lib.hid r1
      have R2 := Lib.hid r2
      have R3 := Lib.hid r3
      have R4 := Lib.hid r4
      have HSRC : Hid (∀ j v, (u8s (sector l i))[j]? = some v → wr.drew.cell? ((⟨bb, o + i * 128, none⟩ : Addr).add j) = some v) := fun j v hj => by
        have hjl : j < 128 := by have := (List.getElem?_eq_some_iff.1 hj).1; rwa [r2] at this
        have hj2 : (u8s l)[128 * i + j]? = some v := by
          rw [← hj]
          simp only [u8s, sector, List.getElem?_map, List.getElem?_take, List.getElem?_drop, if_pos hjl]
        have h1 := HR.out (128 * i + j) v hj2
        have hlb : bb < w.heap.size := World.block_lt_of_cell? w _ h1
        have h2 : w1.cell? ⟨bb, o + (128 * i + j), none⟩ = some v := HQ.out.2.1.cell h1 (fun h => h)
        have h3 := hsetd.1.cell h2 (fun e => by have e : bb = bL := e; have := HQ.out.2.2 _ q3; omega)
        rw [show (⟨bb, o + i * 128, none⟩ : Addr).add j = ⟨bb, o + (128 * i + j), none⟩ by
          have hadd : (⟨bb, o + i * 128, none⟩ : Addr).add j = ⟨bb, o + i * 128 + j, none⟩ := by unfold Addr.add; split <;> simp_all
          rw [hadd]
          congr 1
          omega]
        exact h3
      have hw1 : IntKind.i64.wrap ((i : Int) * 128) = i * 128 := IntWalk.i64_in _ (by omega)
      have hb1 : 0 ≤ (i : Int) * 128 := by omega
      have hb2 : (i : Int) * 128 ≤ 128 * (m : Int) := by omega
      have htn : ((i : Int) * 128).toNat = i * 128 := by omega
      have hne : ¬ cap = i * 128 := by omega
      clear hset hsetd r1 r2 r3 r4
      go_wp2
      go_still_tail 11, (by kernel_rfl)
      change wpList _ _ _ _ _ wr.drew
      generalize wr.drew = wd at *
      refine (wpList_copy_own rfl _ _ 22 22 rfl 5 Try.underlying22 size5 bL (i * 128) 128 128 ⟨bb, o + i * 128, none⟩ (128 * m - i * 128) (cap - i * 128) rfl rfl _ 102 R1.out (u8s (sector l i)) (by rw [R2.out]; exact (Nat.min_eq_right (by omega)).symm) HSRC.out (by rw [R2.out, R3.out]; omega) (u8s_one _) ?_)
      generalize wd.setRow bL _ = wz at *
      go_wp2
      exact ⟨⟨i + 1, by omega, by go_num, R4.out⟩, by simp [intOf]; omega⟩
    · obtain rfl : i = m := by omega
      have HS := Lib.hid hset
      clear hset
      go_wp2
      go_ret2
      refine ⟨_, rfl, d, F, rfl, ?_, ?_, HQ.out.2.2⟩
      · rw [HDM.out]; exact Q5.out _ HS.out
      · exact HQ.out.2.1.trans HS.out.1 (fun x hx e => by have e : x = bL := e; subst e; have := HQ.out.2.2 _ q3; omega)

set_option maxRecDepth 100000 in
set_option maxHeartbeats 2000000 in
theorem load_any {w : World} {v : Value} {l : List Int} (hv : BytesAt w v l) : Calls Try.prog 12 #[v] w (Gives (LoadPost w l)) := by
  obtain ⟨a, cap, rfl, h1, h2, h3⟩ := hv
  unfold LoadPost
  by_cases hok : loadOk l
  · simp only [if_pos hok]
    obtain ⟨bb, o, rfl, hr⟩ := h3 (by rintro rfl; simp [loadOk] at hok)
    exact load_ok w bb o cap l hok h1 h2 hr
  · simp only [if_neg hok]
    generalize hn : l.length = n at *
    have ht1 : Int.tmod (n : Int) 128 = ((n % 128 : Nat) : Int) := by rw [Int.tmod_eq_emod_of_nonneg (by omega)]; omega
    have ht2 : Int.tdiv (n : Int) 128 = ((n / 128 : Nat) : Int) := by rw [Int.tdiv_eq_ediv_of_nonneg (by omega)]; omega
    have hle : n ≤ 9223372036854775807 := by unfold maxLen at h2; omega
    by_cases hr : n % 128 = 0
    · obtain ⟨m, hm⟩ : ∃ m, m = n / 128 := ⟨_, rfl⟩
      have HNW := Lib.hid (new_bad (m : Int) w (by unfold loadOk at hok; omega))
      have ht1' : Int.tmod (n : Int) 128 = 0 := by rw [ht1, hr]; rfl
      have ht2' : Int.tdiv (n : Int) 128 = m := by rw [ht2, hm]
      have hmle : m ≤ 9223372036854775807 := by omega
      clear hm ht1 ht2
      clear h1 h2 h3 hok hr hn
      go_enter Try.func12, Try.ntmps12
      go_wp2_with (go_at_call 35; go_must (refine HNW.out.mono ?_); rintro e w1 ⟨v, rfl, rfl, rfl⟩)
      go_ret2
      exact ⟨_, rfl, rfl, rfl⟩
    · have hb : (((n % 128 : Nat) : Int) != 0) = true := by simp; omega
      generalize n % 128 = r at *
      clear h1 h2 h3 hok hr hn ht2
      go_enter Try.func12, Try.ntmps12
      go_wp2
      go_ret2
      exact ⟨_, rfl, rfl, rfl⟩
end Go.Proofs.Ytghnbbpoaeheaaa
