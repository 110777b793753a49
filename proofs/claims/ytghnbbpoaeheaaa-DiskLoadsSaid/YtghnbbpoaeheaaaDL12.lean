/- The disk's functions, walked: Load. -/
import Derived.Test.YtghnbbpoaeheaaaDL11
import Derived.Laws.CopyOwn
import Derived.StillTailTactics
import Derived.IntWalk
namespace Go.Proofs.Ytghnbbpoaeheaaa
open Go.RowKit

def Dk.of (l : List Int) : Dk := { las := (List.range (l.length / 128)).map (sector l), cache := [], failed := false }
def loadOk (l : List Int) : Prop := l.length % 128 = 0 ∧ 1 ≤ l.length / 128 ∧ l.length / 128 ≤ 8192
instance (l : List Int) : Decidable (loadOk l) := inferInstanceAs (Decidable (_ ∧ _))
/-- The sectors behind i copies. -/
def loaded (l : List Int) (m i : Nat) : List (List Int) := (List.range m).map fun j => if j < i then sector l j else List.replicate 128 0
theorem loaded_zero (l : List Int) (m : Nat) : loaded l m 0 = List.replicate m (List.replicate 128 0) := by
  unfold loaded
  apply List.ext_getElem
  · simp
  · intro j h1 h2; simp
theorem loaded_all (l : List Int) (m : Nat) : loaded l m m = (List.range m).map (sector l) := by
  unfold loaded
  refine List.map_congr_left fun j hj => ?_
  rw [if_pos (List.mem_range.1 hj)]
theorem loaded_succ (l : List Int) {m i : Nat} : loaded l m (i + 1) = (loaded l m i).set i (sector l i) := by
  unfold loaded
  apply List.ext_getElem
  · simp
  · intro j h1 h2
    rw [List.getElem_set]
    by_cases e : i = j
    · subst e; simp
    · rw [if_neg e]
      simp only [List.getElem_map, List.getElem_range]
      by_cases h : j < i
      · rw [if_pos h, if_pos (by omega)]
      · rw [if_neg h, if_neg (by omega)]
theorem loaded_sec (l : List Int) {m i : Nat} (hm : 128 * m ≤ l.length) : ∀ s ∈ loaded l m i, s.length = 128 := by
  intro s hs
  unfold loaded at hs
  obtain ⟨j, hj, rfl⟩ := List.mem_map.1 hs
  have hj := List.mem_range.1 hj
  split
  · unfold sector; simp; omega
  · simp
theorem las_splice {las : List (List Int)} {k : Nat} {d : List Int} (h : ∀ s ∈ las, s.length = 128) (hk : k < las.length) :
    (lasCells las).take (k * 128) ++ (u8s d ++ (lasCells las).drop (k * 128 + 128)) = lasCells (las.set k d) := by
  have e2 : las.set k d = las.take k ++ [d] ++ las.drop (k + 1) := by
    rw [List.set_eq_take_append_cons_drop, if_pos hk]; simp
  have hl : (lasCells (las.take k)).length = k * 128 := by
    rw [length_lasCells (fun s hs => h s (List.mem_of_mem_take hs)), List.length_take, Nat.min_eq_left (Nat.le_of_lt hk)]
  have hl2 : (lasCells (las.take (k + 1))).length = k * 128 + 128 := by
    rw [length_lasCells (fun s hs => h s (List.mem_of_mem_take hs)), List.length_take, Nat.min_eq_left hk]; omega
  have e3 : lasCells las = lasCells (las.take k) ++ lasCells (las.drop k) := by rw [← lasCells_append, List.take_append_drop]
  have e4 : lasCells las = lasCells (las.take (k + 1)) ++ lasCells (las.drop (k + 1)) := by rw [← lasCells_append, List.take_append_drop]
  have a1 : (lasCells las).take (k * 128) = lasCells (las.take k) := by rw [e3, ← hl, List.take_left']; rfl
  have a2 : (lasCells las).drop (k * 128 + 128) = lasCells (las.drop (k + 1)) := by rw [e4, ← hl2, List.drop_left']; rfl
  have hd1 : lasCells [d] = u8s d := by simp [lasCells]
  rw [a1, a2, e2, lasCells_append, lasCells_append, hd1, List.append_assoc]

theorem size5 : (Try.prog.info? 5).map (·.size) = some 1 := by kernel_rfl
/-- A new disk whose sectors are being written. -/
theorem new_lies {w1 : World} {d : Nat} {F : Nat → Prop} {m : Nat} (h : DiskAt w1 d (Dk.new m) F) :
    ∃ bL, w1.cell? ⟨d, 0, none⟩ = some (.slice (some ⟨bL, 0, none⟩) m m) ∧ d ≠ bL ∧ F bL ∧ w1.heap[bL]? = some (.cells (lasCells (List.replicate m (List.replicate 128 0))).toArray 102 (0, 0)) ∧
      ∀ (las : List (List Int)) wr, las.length = m → (∀ s ∈ las, s.length = 128) → Settling w1 bL las wr → DiskAt wr d { las := las, cache := [], failed := false } F := by
  obtain ⟨bL, bS, csl, es, ck, h1, h2, h3, h4, h5, hF, ok⟩ := h
  have hm : (Dk.new m).las.length = m := by simp [Dk.new]
  rw [hm] at h1
  have hne : d ≠ bL := ne_of_elem h1 h2 (by decide)
  refine ⟨bL, cell_at h1 0 rfl, hne, (hF bL).2 (.inr (.inl rfl)), h2, fun las wr hl hs hset => ?_⟩
  obtain ⟨g1, g2⟩ := hset
  have ok1 := ok.pos
  have ok2 := ok.le
  rw [hm] at ok1 ok2
  refine ⟨bL, bS, csl, es, ck, by rw [hl]; exact g1.at h1 hne, g2, g1.at h3 (fun e => by have e : bS = bL := e; subst e; rw [h2] at h3; simp at h3), h4, ownsRow_keep h5 g1 (fun x hx e => ?_), hF, ⟨by rw [hl]; exact ok1, by rw [hl]; exact ok2, hs, fun e he => (by cases he), fun h => (by cases h)⟩⟩
  have e : x = bL := e
  subst e
  obtain ⟨cs, hcs⟩ := own_elem h5 hx
  rw [h2] at hcs
  simp at hcs
/-- What Load leaves. -/
def LoadPost (w : World) (l : List Int) (v : Value) (w' : World) : Prop := if loadOk l then NewDisk w (Dk.of l) v w' else v = .tuple #[.pointer none, .int .u16 40] ∧ w = w'

set_option maxRecDepth 100000 in
set_option maxHeartbeats 2000000 in
theorem load_ok (w : World) (bb o cap : Nat) (l : List Int) (hok : loadOk l) (hm : l.length ≤ cap) (hcap : cap ≤ maxLen) (hr : w.rangeAt bb o (u8s l)) :
    Calls Try.prog 12 #[.slice (some ⟨bb, o, none⟩) l.length cap] w (Gives (NewDisk w (Dk.of l))) := by
  obtain ⟨k1, k2, k3⟩ := hok
  obtain ⟨m, hm1⟩ : ∃ m, m = l.length / 128 := ⟨_, rfl⟩
  obtain ⟨n, hn⟩ : ∃ n, n = l.length := ⟨_, rfl⟩
  rw [← hn] at hm k1 k2 k3 hm1 ⊢
  have hnm : n = 128 * m := by omega
  have ht1 : Int.tmod (n : Int) 128 = 0 := by show ((n % 128 : Nat) : Int) = 0; omega
  have ht2 : Int.tdiv (n : Int) 128 = m := by show ((n / 128 : Nat) : Int) = m; omega
  have HNW := Lib.hid (new_ok m w (by omega) (by omega))
  have HR := Lib.hid hr
  have HNM : Hid (l.length = 128 * m) := by show _ = _; omega
  have hm3 : m ≤ 8192 := by omega
  have hcm : 128 * m ≤ cap := by omega
  unfold maxLen at hcap
  have HDM : Hid (Dk.of l = { las := loaded l m m, cache := [], failed := false }) := by
    show _ = _
    unfold Dk.of
    rw [loaded_all, hm1, hn]
  have hn2 : n ≤ cap := hm
  have hm4 : 1 ≤ m := by omega
  clear hr hn k1 k2 k3 hm1 hm
  have HLZ : Hid (∀ (w1 : World) (d : Nat) (F : Nat → Prop), DiskAt w1 d (Dk.new m) F → ∃ bL, w1.cell? ⟨d, 0, none⟩ = some (.slice (some ⟨bL, 0, none⟩) m m) ∧ d ≠ bL ∧ F bL ∧ Hid (Settling w1 bL (loaded l m 0) w1) ∧
      Hid (∀ wr, Settling w1 bL (loaded l m m) wr → DiskAt wr d { las := loaded l m m, cache := [], failed := false } F)) := fun w1 d F h => by
    obtain ⟨bL, q1, q2, q3, q4, q5⟩ := new_lies h
    exact ⟨bL, q1, q2, q3, ⟨Keep.refl _ _, by rw [loaded_zero]; exact q4⟩, fun wr hset => q5 _ wr (by simp [loaded]) (loaded_sec l (by have := HNM.out; omega)) hset⟩
  have HST : Hid (∀ (w1 wr : World) (bL i : Nat), i < m → Settling w1 bL (loaded l m i) wr → wr.heap[bL]? = some (.cells (lasCells (loaded l m i)).toArray 102 (0, 0)) ∧
      ((u8s (sector l i)).length = 128) ∧ (lasCells (loaded l m i)).toArray.size = 128 * m ∧
      Settling w1 bL (loaded l m (i + 1)) (wr.setRow bL ((lasCells (loaded l m i)).toArray.toList.take (i * 128) ++ (u8s (sector l i) ++ (lasCells (loaded l m i)).toArray.toList.drop (i * 128 + (u8s (sector l i)).length))).toArray)) := fun w1 wr bL i hi hset => by
    have hl := HNM.out
    have hs := loaded_sec l (m := m) (i := i) (by omega)
    have hsl : (sector l i).length = 128 := by unfold sector; simp; omega
    have hlen : (loaded l m i).length = m := by simp [loaded]
    refine ⟨hset.2, by rw [length_u8s]; exact hsl, by rw [List.size_toArray, length_lasCells hs, hlen]; omega, hset.1.trans' (Keep.setRow (F := (· = bL)) wr bL _ rfl), ?_⟩
    rw [setRow_heap wr bL _ _ _ _ hset.2, List.toList_toArray, length_u8s, hsl, las_splice hs (by omega), ← loaded_succ]
  go_enter Try.func12, Try.ntmps12
  go_wp2_with (go_at_call 35; go_must (refine HNW.out.mono ?_); rintro e w1 ⟨v, rfl, d, F, rfl, hq⟩; have HQ := Lib.hid hq; obtain ⟨bL, q1, q2, q3, Q4, Q5⟩ := HLZ.out w1 d F hq.1; clear hq)
  clear HNW HLZ
  go_loopw [26] (fun t wr => ∃ i : Nat, i ≤ m ∧ t = .int .i64 i ∧ Settling w1 bL (loaded l m i) wr) (fun t _ => m - (intOf t).toNat)
  case atStart => exact ⟨0, Nat.zero_le _, rfl, Q4.out⟩
  case round =>
    obtain ⟨i, hi, rfl, hset⟩ := hrel
    by_cases hlt : i < m
    · have hc : wr.cell? ⟨d, 0, none⟩ = some (.slice (some ⟨bL, 0, none⟩) m m) := hset.1.cell q1 q2
      have hsetd : Settling w1 bL (loaded l m i) wr.drew := ⟨hset.1.trans' (Keep.drew _ _), hset.2⟩
      obtain ⟨r1, r2, r3, r4⟩ := HST.out w1 wr.drew bL i hlt hsetd
      have R1 := Lib.hid r1
      have R2 := Lib.hid r2
      have R3 := Lib.hid r3
      have R4 := Lib.hid r4
      have HSRC : Hid (∀ j v, (u8s (sector l i))[j]? = some v → wr.drew.cell? ((⟨bb, o + i * 128, none⟩ : Addr).add j) = some v) := fun j v hj => by
        have hjl : j < 128 := by have := (List.getElem?_eq_some_iff.1 hj).1; rwa [r2] at this
        have hj2 : (u8s l)[128 * i + j]? = some v := by
          rw [← hj]
          simp only [u8s, sector, List.getElem?_map, List.getElem?_take, List.getElem?_drop, if_pos hjl]
        have h1 := HR.out (128 * i + j) v hj2
        have hlb : bb < w.heap.size := World.block_lt_of_cell? w _ h1
        have h2 : w1.cell? ⟨bb, o + (128 * i + j), none⟩ = some v := HQ.out.2.1.cell h1 (fun h => h)
        have h3 := hsetd.1.cell h2 (fun e => by have e : bb = bL := e; have := HQ.out.2.2 _ q3; omega)
        rw [show (⟨bb, o + i * 128, none⟩ : Addr).add j = ⟨bb, o + (128 * i + j), none⟩ by
          have hadd : (⟨bb, o + i * 128, none⟩ : Addr).add j = ⟨bb, o + i * 128 + j, none⟩ := by unfold Addr.add; split <;> simp_all
          rw [hadd]
          congr 1
          omega]
        exact h3
      have hw1 : IntKind.i64.wrap ((i : Int) * 128) = i * 128 := IntWalk.i64_in _ (by omega)
      have hb1 : 0 ≤ (i : Int) * 128 := by omega
      have hb2 : (i : Int) * 128 ≤ 128 * (m : Int) := by omega
      have htn : ((i : Int) * 128).toNat = i * 128 := by omega
      have hne : ¬ cap = i * 128 := by omega
      clear hset hsetd r1 r2 r3 r4
      go_wp2
      go_still_tail 11, (by kernel_rfl)
      change wpList _ _ _ _ _ wr.drew
      generalize wr.drew = wd at *
      refine (wpList_copy_own rfl _ _ 22 22 rfl 5 Try.underlying22 size5 bL (i * 128) 128 128 ⟨bb, o + i * 128, none⟩ (128 * m - i * 128) (cap - i * 128) rfl rfl _ 102 R1.out (u8s (sector l i)) (by rw [R2.out]; exact (Nat.min_eq_right (by omega)).symm) HSRC.out (by rw [R2.out, R3.out]; omega) (u8s_one _) ?_)
      generalize wd.setRow bL _ = wz at *
      go_wp2
      exact ⟨⟨i + 1, by omega, by go_num, R4.out⟩, by simp [intOf]; omega⟩
    · obtain rfl : i = m := by omega
      have HS := Lib.hid hset
      clear hset
      go_wp2
      go_ret2
      refine ⟨_, rfl, d, F, rfl, ?_, ?_, HQ.out.2.2⟩
      · rw [HDM.out]; exact Q5.out _ HS.out
      · exact HQ.out.2.1.trans HS.out.1 (fun x hx e => by have e : x = bL := e; subst e; have := HQ.out.2.2 _ q3; omega)

set_option maxRecDepth 100000 in
set_option maxHeartbeats 2000000 in
theorem load_any {w : World} {v : Value} {l : List Int} (hv : BytesAt w v l) : Calls Try.prog 12 #[v] w (Gives (LoadPost w l)) := by
  obtain ⟨a, cap, rfl, h1, h2, h3⟩ := hv
  unfold LoadPost
  by_cases hok : loadOk l
  · simp only [if_pos hok]
    obtain ⟨bb, o, rfl, hr⟩ := h3 (by rintro rfl; simp [loadOk] at hok)
    exact load_ok w bb o cap l hok h1 h2 hr
  · simp only [if_neg hok]
    generalize hn : l.length = n at *
    have ht1 : Int.tmod (n : Int) 128 = ((n % 128 : Nat) : Int) := by rw [Int.tmod_eq_emod_of_nonneg (by omega)]; omega
    have ht2 : Int.tdiv (n : Int) 128 = ((n / 128 : Nat) : Int) := by rw [Int.tdiv_eq_ediv_of_nonneg (by omega)]; omega
    have hle : n ≤ 9223372036854775807 := by unfold maxLen at h2; omega
    by_cases hr : n % 128 = 0
    · obtain ⟨m, hm⟩ : ∃ m, m = n / 128 := ⟨_, rfl⟩
      have HNW := Lib.hid (new_bad (m : Int) w (by unfold loadOk at hok; omega))
      have ht1' : Int.tmod (n : Int) 128 = 0 := by rw [ht1, hr]; rfl
      have ht2' : Int.tdiv (n : Int) 128 = m := by rw [ht2, hm]
      have hmle : m ≤ 9223372036854775807 := by omega
      clear hm ht1 ht2
      clear h1 h2 h3 hok hr hn
      go_enter Try.func12, Try.ntmps12
      go_wp2_with (go_at_call 35; go_must (refine HNW.out.mono ?_); rintro e w1 ⟨v, rfl, rfl, rfl⟩)
      go_ret2
      exact ⟨_, rfl, rfl, rfl⟩
    · have hb : (((n % 128 : Nat) : Int) != 0) = true := by simp; omega
      generalize n % 128 = r at *
      clear h1 h2 h3 hok hr hn ht2
      go_enter Try.func12, Try.ntmps12
      go_wp2
      go_ret2
      exact ⟨_, rfl, rfl, rfl⟩
end Go.Proofs.Ytghnbbpoaeheaaa

/- The document's disk (spindleref04) as it lies in memory; its small functions, walked. -/
namespace Go.Proofs.Ytghnbbpoaeheaaa
open Go.RowKit

/-- The cells of a cache of the document's disk: of each write its sector and its bytes' slice. -/
def refCells (q : List (Nat × List Int × Value)) : List Value := q.flatMap fun e => [.int .i64 e.1, e.2.2]
theorem refCells_append (a b : List (Nat × List Int × Value)) : refCells (a ++ b) = refCells a ++ refCells b := by simp [refCells]
theorem length_refCells (q : List (Nat × List Int × Value)) : (refCells q).length = q.length * 2 := by
  induction q with
  | nil => rfl
  | cons e r ih =>
    have : refCells (e :: r) = [.int .i64 e.1, e.2.2] ++ refCells r := rfl
    rw [this, List.length_append, ih, List.length_cons]
    simp
    omega
theorem refCells_get {q : List (Nat × List Int × Value)} {i : Nat} {e : Nat × List Int × Value} (h : q[i]? = some e) : (refCells q)[i * 2]? = some (.int .i64 e.1) ∧ (refCells q)[i * 2 + 1]? = some e.2.2 := by
  induction q generalizing i with
  | nil => simp at h
  | cons x r ih =>
    have hc : refCells (x :: r) = .int .i64 x.1 :: x.2.2 :: refCells r := rfl
    cases i with
    | zero =>
      simp at h
      subst h
      rw [hc]
      exact ⟨rfl, rfl⟩
    | succ i =>
      have := ih (by simpa using h)
      rw [hc, show (i + 1) * 2 = i * 2 + 1 + 1 by omega]
      exact this

/-- The document's disk: its lasting bytes, its cache, whether it has failed. -/
def RefAt (w : World) (r : Nat) (D : Dk) (F : Nat → Prop) : Prop :=
  ∃ (lv cv : Value) (q : List (Nat × List Int × Value)), w.heap[r]? = some (.cells #[lv, cv, .bool D.failed] 105 (0, 0)) ∧ OwnB w 0 lv D.las.flatten ∧ w.ownsRow 0 151 2 cv q.length (refCells q) ∧
    q.map (fun e => (e.1, e.2.1)) = D.cache ∧ (∀ e ∈ q, OwnB w 0 e.2.2 e.2.1) ∧
    (∀ x, F x ↔ x = r ∨ lv.ownBlock = some x ∨ cv.ownBlock = some x ∨ ∃ e ∈ q, e.2.2.ownBlock = some x) ∧ D.Ok

structure RefLies (w : World) (r : Nat) (D : Dk) (F : Nat → Prop) (lv cv : Value) (q : List (Nat × List Int × Value)) : Prop where
  hr : w.heap[r]? = some (.cells #[lv, cv, .bool D.failed] 105 (0, 0))
  las : OwnB w 0 lv D.las.flatten
  row : w.ownsRow 0 151 2 cv q.length (refCells q)
  map : q.map (fun e => (e.1, e.2.1)) = D.cache
  dat : ∀ e ∈ q, OwnB w 0 e.2.2 e.2.1
  hF : ∀ x, F x ↔ x = r ∨ lv.ownBlock = some x ∨ cv.ownBlock = some x ∨ ∃ e ∈ q, e.2.2.ownBlock = some x
  ok : D.Ok
section
variable {w : World} {r : Nat} {D : Dk} {F : Nat → Prop} {lv cv : Value} {q : List (Nat × List Int × Value)}
theorem RefAt.lies (h : RefAt w r D F) : ∃ lv cv q, RefLies w r D F lv cv q := by
  obtain ⟨lv, cv, q, h1, h2, h3, h4, h5, h6, h7⟩ := h; exact ⟨lv, cv, q, h1, h2, h3, h4, h5, h6, h7⟩
theorem RefLies.at (h : RefLies w r D F lv cv q) : RefAt w r D F := ⟨lv, cv, q, h.hr, h.las, h.row, h.map, h.dat, h.hF, h.ok⟩
theorem RefLies.keep {w' : World} {G : Nat → Prop} (h : RefLies w r D F lv cv q) (hk : Keep G w w') (hG : ∀ x, F x → ¬ G x) : RefLies w' r D F lv cv q :=
  ⟨hk.at h.hr (hG _ ((h.hF _).2 (.inl rfl))), ownsRow_keep h.las hk (fun x hx => hG x ((h.hF x).2 (.inr (.inl hx)))), ownsRow_keep h.row hk (fun x hx => hG x ((h.hF x).2 (.inr (.inr (.inl hx))))), h.map,
    fun e he => ownsRow_keep (h.dat e he) hk (fun x hx => hG x ((h.hF x).2 (.inr (.inr (.inr ⟨e, he, hx⟩))))), h.hF, h.ok⟩
theorem RefAt.keep {w' : World} {G : Nat → Prop} (h : RefAt w r D F) (hk : Keep G w w') (hG : ∀ x, F x → ¬ G x) : RefAt w' r D F := by
  obtain ⟨lv, cv, q, h⟩ := h.lies; exact (h.keep hk hG).at
theorem RefLies.lt (h : RefLies w r D F lv cv q) : ∀ x, F x → x < w.heap.size := by
  intro x hx
  rcases (h.hF x).1 hx with rfl | hx | hx | ⟨e, he, hx⟩
  · exact lt_of_heap h.hr
  · exact (World.ownsRow.lt h.las x hx).2
  · exact (h.row.lt x hx).2
  · exact (World.ownsRow.lt (h.dat e he) x hx).2
theorem RefAt.lt (h : RefAt w r D F) : ∀ x, F x → x < w.heap.size := by obtain ⟨lv, cv, q, h⟩ := h.lies; exact h.lt
theorem RefAt.ok (h : RefAt w r D F) : D.Ok := by obtain ⟨lv, cv, q, h⟩ := h.lies; exact h.ok
theorem RefLies.len (h : RefLies w r D F lv cv q) : q.length = D.cache.length := by rw [← h.map]; simp
/-- The forms that the walk asks. -/
theorem RefLies.form (h : RefLies w r D F lv cv q) : ∃ bl cap xc capc, lv = .slice (some ⟨bl, 0, none⟩) D.las.flatten.length cap ∧ D.las.flatten.length ≤ cap ∧ cap ≤ maxLen ∧ w.rangeAt bl 0 (u8s D.las.flatten) ∧ cv = .slice xc q.length capc ∧ D.las.flatten.length = 128 * D.las.length := by
  have hl := flatten_length D.las h.ok.sec
  have hpos := h.ok.pos
  rcases h.las.2 with ⟨_, h0⟩ | ⟨g, cap, cur, hv, hg, hh, hc, hm, hs, ht⟩
  · omega
  · obtain ⟨xc, capc, hcv⟩ := own_form h.row
    refine ⟨g, cap, xc, capc, hv, hc, hm, range_at hh 0 _ ?_, hcv, hl⟩
    rw [List.drop_zero]
    simpa using ht
theorem RefLies.entry (h : RefLies w r D F lv cv q) {i : Nat} {e : Nat × List Int × Value} (he : q[i]? = some e) : ∃ bc capc, cv = .slice (some ⟨bc, 0, none⟩) q.length capc ∧ w.cell? ⟨bc, i * 2, none⟩ = some (.int .i64 e.1) ∧ w.cell? ⟨bc, i * 2 + 1, none⟩ = some e.2.2 := by
  obtain ⟨c1, c2⟩ := refCells_get he
  have hlt := (List.getElem?_eq_some_iff.1 he).1
  rcases h.row.2 with ⟨_, h0⟩ | ⟨g, cap, cur, hv, hg, hh, hc, hm, hs, ht⟩
  · omega
  · refine ⟨g, cap, hv, cell_at hh _ ?_, cell_at hh _ ?_⟩
    · rw [← ht, List.getElem?_take] at c1
      split at c1
      · simpa using c1
      · cases c1
    · rw [← ht, List.getElem?_take] at c2
      split at c2
      · simpa using c2
      · cases c2
/-- What an operation on it leaves. -/
def RefPost (w : World) (r : Nat) (D' : Dk) (F : Nat → Prop) (w' : World) : Prop := ∃ F', RefAt w' r D' F' ∧ Keep F w w' ∧ ∀ x, F' x → F x ∨ w.heap.size ≤ x
theorem RefPost.same (h : RefAt w r D F) : RefPost w r D F w := ⟨F, h, Keep.refl _ _, fun _ hx => .inl hx⟩

theorem rsectors_any (h : RefAt w r D F) : Calls Try.prog 66 #[.pointer (some ⟨r, 0, none⟩)] w fun e w' => e = .returned (.int .i64 D.las.length) ∧ w = w' := by
  obtain ⟨lv, cv, q, h⟩ := h.lies
  obtain ⟨bl, cap, xc, capc, rfl, h1, h2, h3, rfl, h5⟩ := h.form
  have c0 := cell_at h.hr 0 rfl
  have hle := h.ok.le
  generalize D.las.flatten.length = n at *
  have ht2 : Int.tdiv (n : Int) 128 = D.las.length := by rw [Int.tdiv_eq_ediv_of_nonneg (by omega)]; omega
  have hm : D.las.length ≤ 8192 := hle
  generalize D.las.length = m at *
  clear h h3 h5
  go_enter Try.func66, Try.ntmps66
  go_wp2
  go_ret
  exact ⟨rfl, rfl⟩

theorem rfail_any (h : RefAt w r D F) : Calls Try.prog 64 #[.pointer (some ⟨r, 0, none⟩)] w (Gives fun v w' => v = .tuple #[] ∧ RefPost w r D.fail F w') := by
  obtain ⟨lv, cv, q, h⟩ := h.lies
  have HP : Hid (RefPost w r D.fail F ((w.setCell ⟨r, 2, none⟩ (.bool true)).setCell ⟨r, 1, none⟩ (.slice none 0 0))) := by
    have hk : Keep (· = r) w ((w.setCell ⟨r, 2, none⟩ (.bool true)).setCell ⟨r, 1, none⟩ (.slice none 0 0)) := (Keep.setCell (F := (· = r)) w ⟨r, 2, none⟩ (.bool true) rfl).trans' (Keep.setCell (F := (· = r)) _ ⟨r, 1, none⟩ (.slice none 0 0) rfl)
    have h2 := heap_setCell_same _ r 1 _ _ (.slice none 0 0) (heap_setCell_same w r 2 _ _ (.bool true) h.hr)
    have hlr : ∀ x, lv.ownBlock = some x → x ≠ r := fun x hx e => by
      obtain ⟨cs, hcs⟩ := own_elem h.las hx
      have := h.hr
      rw [← e, hcs] at this
      simp at this
    refine ⟨fun x => x = r ∨ lv.ownBlock = some x, ⟨lv, .slice none 0 0, [], by simpa [Dk.fail] using h2, ownsRow_keep h.las hk hlr, World.ownsRow_nil _ _ _ _, rfl, (fun e he => (by cases he)), (fun x => (by simp [Value.ownBlock])), ⟨h.ok.pos, h.ok.le, h.ok.sec, (fun e he => (by cases he)), fun _ => rfl⟩⟩, hk.mono fun x _ e => (show x = r from e) ▸ (h.hF r).2 (.inl rfl), fun x hx => .inl ?_⟩
    rcases hx with rfl | hx
    · exact (h.hF _).2 (.inl rfl)
    · exact (h.hF x).2 (.inr (.inl hx))
  have c1 := cell_at h.hr 1 rfl
  have c2 := cell_at h.hr 2 rfl
  have f1 := free_at h.hr 1
  have f2 := free_at h.hr 2
  have hlt := lt_of_heap h.hr
  clear h
  go_enter Try.func64, Try.ntmps64
  go_wp2
  go_end0
  exact ⟨_, rfl, rfl, HP.out⟩
end
end Go.Proofs.Ytghnbbpoaeheaaa

/- The document's disk, walked: Image, Load, Write, Pending. -/
namespace Go.Proofs.Ytghnbbpoaeheaaa
open Go.RowKit

section
variable {w : World} {r : Nat} {D : Dk} {F : Nat → Prop} {lv cv : Value} {q : List (Nat × List Int × Value)}
set_option maxHeartbeats 400000 in
theorem rimage_any (h : RefAt w r D F) : Calls Try.prog 62 #[.pointer (some ⟨r, 0, none⟩)] w (Gives (FreshB w D.image)) := by
  obtain ⟨lv, cv, q, h⟩ := h.lies
  obtain ⟨bl, cap, xc, capc, rfl, h1, h2, h3, rfl, h5⟩ := h.form
  have c0 := cell_at h.hr 0 rfl
  have c2 := cell_at h.hr 2 rfl
  have hle := h.ok.le
  unfold Dk.image
  cases hf : D.failed with
  | true =>
    rw [hf] at c2
    simp only [if_true]
    clear h h3 h5
    go_enter Try.func62, Try.ntmps62
    go_wp2
    go_ret
    exact ⟨_, rfl, World.ownsRow_nil _ _ _ _, Keep.refl _ _⟩
  | false =>
    rw [hf] at c2
    simp only [Bool.false_eq_true, if_false]
    have HN : Hid (∀ j u, (u8s D.las.flatten)[j]? = some u → w.cell? ((⟨bl, 0, none⟩ : Addr).add j) = some u) := fun j u hj => by
      have hadd : (⟨bl, 0, none⟩ : Addr).add j = ⟨bl, 0 + j, none⟩ := by unfold Addr.add; split <;> simp_all
      rw [hadd]
      exact h3 j u hj
    have HL : Hid ((u8s D.las.flatten).length = D.las.flatten.length) := length_u8s _
    have hbig : D.las.flatten.length ≤ 1048576 := by omega
    have H1 := Lib.hid (u8s_one D.las.flatten)
    generalize hn : D.las.flatten.length = n at *
    clear h h3 h5
    go_enter Try.func62, Try.ntmps62
    go_wp2_with (at_builtin; go_must (refine wpList_app22 rfl _ _ rfl w.heap.size _ 0 [] rfl (World.ownsRow_nil _ _ _ _) ⟨bl, 0, none⟩ n cap (u8s D.las.flatten) rfl HL.out HN.out H1.out (by omega) (Nat.le_refl _) ?_); intro v' w' ho hg _; have HO := Lib.hid ho; have HG := Lib.hid hg; clear ho hg)
    go_ret
    refine ⟨_, rfl, ?_, Keep.grown HG.out (fun x hx => by cases hx)⟩
    have := HO.out
    unfold OwnB
    rw [hn]
    simpa using this

def RefNew (w : World) (D : Dk) (v : Value) (w' : World) : Prop := ∃ r F, v = .tuple #[.pointer (some ⟨r, 0, none⟩), .int .i64 0] ∧ RefAt w' r D F ∧ Keep NoF w w' ∧ ∀ x, F x → w.heap.size ≤ x
def RLoadPost (w : World) (l : List Int) (v : Value) (w' : World) : Prop := if loadOk l then RefNew w (Dk.of l) v w' else v = .tuple #[.pointer none, .int .i64 40] ∧ w = w'
theorem run_build105 (x : Value) (hx : x.oneCell' = true) (w : World) : (Instr.build 105 #[(0, x)]).run Try.prog w = .ok (.agg #[x, .slice none 0 0, .bool false]) w := by
  cases x <;> simp [Value.oneCell'] at hx <;> kernel_rfl
theorem of_flatten {l : List Int} (h : loadOk l) : (Dk.of l).las.flatten = l ∧ (Dk.of l).Ok := by
  obtain ⟨h1, h2, h3⟩ := h
  have hs : ∀ s ∈ (Dk.of l).las, s.length = 128 := by
    intro s hs
    obtain ⟨j, hj, rfl⟩ := List.mem_map.1 hs
    have := List.mem_range.1 hj
    unfold sector
    simp
    omega
  have hlen : (Dk.of l).las.length = l.length / 128 := by simp [Dk.of]
  refine ⟨?_, ⟨by rw [hlen]; exact h2, by rw [hlen]; exact h3, hs, (fun e he => (by cases he)), fun _ => rfl⟩⟩
  have hfl := flatten_length _ hs
  apply List.ext_getElem?
  intro i
  by_cases hi : i < l.length
  · have hk : i / 128 < (Dk.of l).las.length := by rw [hlen]; omega
    have hsec := flatten_sector (Dk.of l).las (i / 128) hs hk
    have e2 : (Dk.of l).las.getD (i / 128) [] = sector l (i / 128) := by
      rw [List.getD_eq_getElem?_getD]
      show ((List.range (l.length / 128)).map (sector l))[i / 128]?.getD [] = _
      rw [List.getElem?_map, List.getElem?_range (by omega)]
      rfl
    rw [e2] at hsec
    have h4 := congrArg (fun x => x[i % 128]?) hsec
    unfold sector at h4
    simp only [List.getElem?_take, List.getElem?_drop, if_pos (Nat.mod_lt i (show 0 < 128 by decide))] at h4
    rwa [show 128 * (i / 128) + i % 128 = i by omega] at h4
  · rw [List.getElem?_eq_none (by omega), List.getElem?_eq_none (by omega)]
set_option maxRecDepth 100000 in
set_option maxHeartbeats 1000000 in
theorem rload_any {w : World} {v : Value} {l : List Int} (hv : BytesAt w v l) : Calls Try.prog 13 #[v] w (Gives (RLoadPost w l)) := by
  obtain ⟨a, cap, rfl, h1, h2, h3⟩ := hv
  have hle : l.length ≤ 9223372036854775807 := by unfold maxLen at h2; omega
  unfold RLoadPost
  by_cases hok : loadOk l
  · simp only [if_pos hok]
    obtain ⟨k1, k2⟩ := of_flatten hok
    have hok' := hok
    obtain ⟨o1, o2, o3⟩ := hok'
    obtain ⟨bb, o, rfl, hr⟩ := h3 (by rintro rfl; simp at o2)
    have HN : Hid (∀ j u, (u8s l)[j]? = some u → w.cell? ((⟨bb, o, none⟩ : Addr).add j) = some u) := fun j u hj => by
      have hadd : (⟨bb, o, none⟩ : Addr).add j = ⟨bb, o + j, none⟩ := by unfold Addr.add; split <;> simp_all
      rw [hadd]
      exact hr j u hj
    have HL : Hid ((u8s l).length = l.length) := length_u8s _
    have H1 := Lib.hid (u8s_one l)
    have ht1 : Int.tmod (l.length : Int) 128 = 0 := by rw [Int.tmod_eq_emod_of_nonneg (by omega)]; omega
    have hb0 : ((l.length : Int) == 0) = false := beq_eq_false_iff_ne.2 (by omega)
    have hbig : l.length ≤ 1048576 := by omega
    have hq := fun (x : Value) (hx : x.oneCell' = true) (w : World) => run_build105 x hx w
    have HK : Hid (∀ w1 v', w1.ownsRow w.heap.size 5 1 v' (0 + l.length) ([] ++ u8s l) → w.grownBy w1 none → (∃ g cap', v' = .slice (some ⟨g, 0, none⟩) l.length cap') ∧ RefNew w (Dk.of l) (.tuple #[.pointer (some ⟨w1.heap.size, 0, none⟩), .int .i64 0]) (w1.alloc (.cells #[v', .slice none 0 0, .bool false] 105))) := fun w1 v' ho hg => by
      have hk1 : Keep NoF w w1 := Keep.grown hg (fun x hx => by cases hx)
      have hk2 : Keep NoF w1 (w1.alloc (.cells #[v', .slice none 0 0, .bool false] 105)) := Keep.alloc _ _ _
      have ho' : OwnB w1 w.heap.size v' l := by unfold OwnB; simpa using ho
      refine ⟨?_, w1.heap.size, fun x => x = w1.heap.size ∨ v'.ownBlock = some x, rfl, ⟨v', .slice none 0 0, [], heap_alloc_new w1 _, ?_, World.ownsRow_nil _ _ _ _, rfl, (fun e he => (by cases he)), (fun x => (by simp [Value.ownBlock])), k2⟩, hk1.trans' hk2, ?_⟩
      · rcases ho'.2 with ⟨_, h0⟩ | ⟨g, cap', cur, hv, _⟩
        · omega
        · exact ⟨g, cap', hv⟩
      · rw [k1]
        exact OwnB.mono (ownsRow_keep ho' hk2 (fun _ _ h => h)) (Nat.zero_le _)
      · rintro x (rfl | hx)
        · exact hk1.size
        · exact (World.ownsRow.lt ho' x hx).1
    clear h1 h2 h3 hr hok o1 o2 o3 k1 k2
    generalize l.length = n at *
    go_enter Try.func13, Try.ntmps13
    go_wp2_with (at_builtin; go_must (refine wpList_app22 rfl _ _ rfl w.heap.size _ 0 [] rfl (World.ownsRow_nil _ _ _ _) ⟨bb, o, none⟩ n cap (u8s l) rfl HL.out HN.out H1.out (by omega) (Nat.le_refl _) ?_); intro v' w' ho hg _; obtain ⟨⟨g, cap', rfl⟩, hp⟩ := HK.out w' v' ho hg; have HP := Lib.hid hp; clear ho hg hp)
    go_ret2
    exact ⟨_, rfl, HP.out⟩
  · simp only [if_neg hok]
    by_cases h0 : l.length = 0
    · have hb0 : ((l.length : Int) == 0) = true := beq_iff_eq.2 (by omega)
      generalize l.length = n at *
      clear h1 h2 h3 hok
      go_enter Try.func13, Try.ntmps13
      go_wp2
      go_ret2
      exact ⟨_, rfl, rfl, rfl⟩
    · have hb0 : ((l.length : Int) == 0) = false := beq_eq_false_iff_ne.2 (by omega)
      by_cases hr : l.length % 128 = 0
      · have ht1 : Int.tmod (l.length : Int) 128 = 0 := by rw [Int.tmod_eq_emod_of_nonneg (by omega)]; omega
        have hbig : 1048576 < l.length := by unfold loadOk at hok; omega
        generalize l.length = n at *
        clear h1 h2 h3 hok hr
        go_enter Try.func13, Try.ntmps13
        go_wp2
        go_ret2
        exact ⟨_, rfl, rfl, rfl⟩
      · have hb : ¬ ((l.length : Int) % 128 = 0) := by omega
        generalize l.length = n at *
        clear h1 h2 h3 hok hr
        go_enter Try.func13, Try.ntmps13
        go_wp2
        go_ret2
        exact ⟨_, rfl, rfl, rfl⟩
end
end Go.Proofs.Ytghnbbpoaeheaaa

/- The bay's Swap and Load, walked. -/
namespace Go.Proofs.Ytghnbbpoaeheaaa
open Go.RowKit

/-- A disk is laid into slot k. -/
def By.lay (B : By) (k : Int) (D : Option Dk) : By := if B.is k then (if B.takenAt (k.toNat * 3) then B else match D with | none => B | some D => B.setDev (k.toNat * 3) (some ⟨D, false, 0⟩)) else B
/-- What the function that makes the disk leaves. -/
def Made (w : World) (D : Option Dk) (v : Value) (w' : World) : Prop := match D with
  | some D => NewDisk w D v w'
  | none => v = .tuple #[.pointer none, .int .u16 40] ∧ w = w'
def SomeCode (Q : World → Prop) (v : Value) (w' : World) : Prop := ∃ c, v = .int .u16 c ∧ Q w'

set_option maxRecDepth 100000 in
set_option maxHeartbeats 1000000 in
theorem lay_97 {w : World} {b : Nat} {B : By} {F : Nat → Prop} (h : BayAt w b B F) (k : Int) (cv : Value) {D : Option Dk} (hm : Calls Try.prog 97 #[cv] w (Gives (Made w D))) :
    Calls Try.prog 96 #[.pointer (some ⟨b, 0, none⟩), .int .i64 k, .func (.func 97) #[] #[cv]] w (Gives (SomeCode (BayPost w b (B.lay k D) F))) := by
  have hb2 := fun (a : Addr) (w : World) => run_build133 (.pointer (some a)) rfl w
  have hsame := Lib.hid (BayPost.same h)
  obtain ⟨bs, ptr, Fs, h⟩ := h
  have HA := Lib.hid (at_any h k)
  unfold By.lay
  by_cases hk : B.is k
  · have hkk : 0 ≤ k ∧ k < B.n := hk
    have es : slotPtr bs B.n k = .pointer (some ⟨bs, k.toNat * 3, none⟩) := by unfold slotPtr; exact if_pos hkk
    rw [es] at HA
    have hq : k.toNat * 3 + 2 < B.n * 3 := by omega
    have HT := Lib.hid (taken_any h (k.toNat * 3) hq)
    rw [if_pos hk]
    cases ht : B.takenAt (k.toNat * 3) with
    | true =>
      rw [if_pos rfl]
      rw [ht] at HT
      clear h hkk es hq hm ht hk
      go_enter Try.func96, Try.ntmps96
      go_wp2_with (first | (go_at_call 92; go_must (refine HA.out.mono ?_); rintro e w' ⟨rfl, rfl⟩) | (go_at_call 93; go_must (refine HT.out.mono ?_); rintro e w' ⟨rfl, rfl⟩))
      go_ret
      exact ⟨_, rfl, _, rfl, hsame.out⟩
    | false =>
      rw [if_neg (by decide)]
      rw [ht] at HT
      cases D with
      | none =>
        have HM : Hid (Calls Try.prog 97 #[cv] w (Gives fun v w' => v = .tuple #[.pointer none, .int .u16 40] ∧ w = w')) := hm
        clear h hkk es hq hm ht hk
        go_enter Try.func96, Try.ntmps96
        go_wp2_with (first | (go_at_call 92; go_must (refine HA.out.mono ?_); rintro e w' ⟨rfl, rfl⟩) | (go_at_call 93; go_must (refine HT.out.mono ?_); rintro e w' ⟨rfl, rfl⟩) | (go_at_call 97; go_must (refine HM.out.mono ?_); rintro e w' ⟨v, rfl, rfl, rfl⟩))
        go_ret
        exact ⟨_, rfl, _, rfl, hsame.out⟩
      | some D =>
        have HM : Hid (Calls Try.prog 97 #[cv] w (Gives (NewDisk w D))) := hm
        have HC : Hid (∀ w2, Keep NoF w w2 → w2.cell? ⟨bs, k.toNat * 3, none⟩ = some (ptr (k.toNat * 3)) ∧ w2.frozen? ⟨bs, k.toNat * 3, none⟩ = false ∧ bs < w2.heap.size) := fun w2 hkp => by
          have hl2 := h.keep hkp (fun _ _ h => h)
          exact ⟨hl2.slot (by omega), free_at hl2.hs _, lt_of_heap hl2.hs⟩
        have HE : Hid (∀ w2 bd Fd, DiskAt w2 bd D Fd → Keep NoF w w2 → (∀ x, Fd x → w.heap.size ≤ x) → BayPost w b (B.setDev (k.toNat * 3) (some ⟨D, false, 0⟩)) F ((w2.alloc (.cells #[.pointer (some ⟨bd, 0, none⟩), .bool false, .int .i64 0] 133)).setCell ⟨bs, k.toNat * 3, none⟩ (.pointer (some ⟨w2.heap.size, 0, none⟩)))) := fun w2 bd Fd hd hkp hFd => by
          have hk3 : Keep NoF w2 (w2.alloc (.cells #[.pointer (some ⟨bd, 0, none⟩), .bool false, .int .i64 0] 133)) := Keep.alloc _ _ _
          have hl3 := (h.keep hkp (fun _ _ h => h)).keep hk3 (fun _ _ h => h)
          have hlt2 := h.lt
          have hsz2 := hkp.size
          have hdev : DevAt (w2.alloc (.cells #[.pointer (some ⟨bd, 0, none⟩), .bool false, .int .i64 0] 133)) (.pointer (some ⟨w2.heap.size, 0, none⟩)) (some { disk := D, worn := false, left := 0 }) (fun x => x = w2.heap.size ∨ Fd x) :=
            ⟨w2.heap.size, bd, Fd, rfl, heap_alloc_new w2 _, hd.keep hk3 (fun _ _ h => h), fun hx => absurd (hd.lt _ hx) (by omega), fun x => Iff.rfl⟩
          have hpl := hl3.place (i := k.toNat * 3) hdev (fun x hx hF => by
            have := hlt2 x hF
            rcases hx with rfl | hx
            · omega
            · have := hFd x hx; omega) (by omega) ⟨by show (0 : Int) ≤ 0; decide, by show (0 : Int) ≤ 9223372036854775807; decide⟩
          have hkk2 : Keep (· = bs) (w2.alloc (.cells #[.pointer (some ⟨bd, 0, none⟩), .bool false, .int .i64 0] 133)) _ := Keep.setCell (F := (· = bs)) _ ⟨bs, k.toNat * 3, none⟩ (.pointer (some ⟨w2.heap.size, 0, none⟩)) rfl
          have hbsF : F bs := (h.hF bs).2 (.inr (.inl rfl))
          refine ⟨_, ⟨bs, _, _, hpl⟩, (((hkp.trans' hk3).mono fun _ _ h => h.elim)).trans' (hkk2.mono fun x _ e => (show x = bs from e) ▸ hbsF), ?_⟩
          rintro x (rfl | rfl | ⟨j, hj⟩)
          · exact .inl ((h.hF _).2 (.inl rfl))
          · exact .inl hbsF
          · by_cases e : j = k.toNat * 3
            · subst e; rw [put_same] at hj
              rcases hj with rfl | hj
              · exact .inr hsz2
              · exact .inr (hFd x hj)
            · rw [put_other _ _ e] at hj
              exact .inl ((h.hF x).2 (.inr (.inr ⟨j, hj⟩)))
        clear h hkk es hq hm ht hk
        go_enter Try.func96, Try.ntmps96
        go_wp2_with (first | (go_at_call 92; go_must (refine HA.out.mono ?_); rintro e w' ⟨rfl, rfl⟩) | (go_at_call 93; go_must (refine HT.out.mono ?_); rintro e w' ⟨rfl, rfl⟩) | (go_at_call 97; go_must (refine HM.out.mono ?_); rintro e w2 ⟨v, rfl, bd, Fd, rfl, hq⟩; have HQ := Lib.hid hq; clear hq; obtain ⟨q1, q2, q3⟩ := HC.out w2 HQ.out.2.1))
        go_ret
        rw [setCell_alloc_comm _ _ _ _ q3]
        exact ⟨_, rfl, _, rfl, HE.out _ _ _ HQ.out.1 HQ.out.2.1 HQ.out.2.2⟩
  · rw [if_neg hk]
    have es : slotPtr bs B.n k = .pointer none := by unfold slotPtr; exact if_neg hk
    rw [es] at HA
    clear h es hk hm
    go_enter Try.func96, Try.ntmps96
    go_wp2_with (go_at_call 92; go_must (refine HA.out.mono ?_); rintro e w' ⟨rfl, rfl⟩)
    go_ret
    exact ⟨_, rfl, _, rfl, hsame.out⟩
set_option maxRecDepth 100000 in
set_option maxHeartbeats 1000000 in
theorem lay_98 {w : World} {b : Nat} {B : By} {F : Nat → Prop} (h : BayAt w b B F) (k : Int) (cv : Value) {D : Option Dk} (hm : Calls Try.prog 98 #[cv] w (Gives (Made w D))) :
    Calls Try.prog 96 #[.pointer (some ⟨b, 0, none⟩), .int .i64 k, .func (.func 98) #[] #[cv]] w (Gives (SomeCode (BayPost w b (B.lay k D) F))) := by
  have hb2 := fun (a : Addr) (w : World) => run_build133 (.pointer (some a)) rfl w
  have hsame := Lib.hid (BayPost.same h)
  obtain ⟨bs, ptr, Fs, h⟩ := h
  have HA := Lib.hid (at_any h k)
  unfold By.lay
  by_cases hk : B.is k
  · have hkk : 0 ≤ k ∧ k < B.n := hk
    have es : slotPtr bs B.n k = .pointer (some ⟨bs, k.toNat * 3, none⟩) := by unfold slotPtr; exact if_pos hkk
    rw [es] at HA
    have hq : k.toNat * 3 + 2 < B.n * 3 := by omega
    have HT := Lib.hid (taken_any h (k.toNat * 3) hq)
    rw [if_pos hk]
    cases ht : B.takenAt (k.toNat * 3) with
    | true =>
      rw [if_pos rfl]
      rw [ht] at HT
      clear h hkk es hq hm ht hk
      go_enter Try.func96, Try.ntmps96
      go_wp2_with (first | (go_at_call 92; go_must (refine HA.out.mono ?_); rintro e w' ⟨rfl, rfl⟩) | (go_at_call 93; go_must (refine HT.out.mono ?_); rintro e w' ⟨rfl, rfl⟩))
      go_ret
      exact ⟨_, rfl, _, rfl, hsame.out⟩
    | false =>
      rw [if_neg (by decide)]
      rw [ht] at HT
      cases D with
      | none =>
        have HM : Hid (Calls Try.prog 98 #[cv] w (Gives fun v w' => v = .tuple #[.pointer none, .int .u16 40] ∧ w = w')) := hm
        clear h hkk es hq hm ht hk
        go_enter Try.func96, Try.ntmps96
        go_wp2_with (first | (go_at_call 92; go_must (refine HA.out.mono ?_); rintro e w' ⟨rfl, rfl⟩) | (go_at_call 93; go_must (refine HT.out.mono ?_); rintro e w' ⟨rfl, rfl⟩) | (go_at_call 98; go_must (refine HM.out.mono ?_); rintro e w' ⟨v, rfl, rfl, rfl⟩))
        go_ret
        exact ⟨_, rfl, _, rfl, hsame.out⟩
      | some D =>
        have HM : Hid (Calls Try.prog 98 #[cv] w (Gives (NewDisk w D))) := hm
        have HC : Hid (∀ w2, Keep NoF w w2 → w2.cell? ⟨bs, k.toNat * 3, none⟩ = some (ptr (k.toNat * 3)) ∧ w2.frozen? ⟨bs, k.toNat * 3, none⟩ = false ∧ bs < w2.heap.size) := fun w2 hkp => by
          have hl2 := h.keep hkp (fun _ _ h => h)
          exact ⟨hl2.slot (by omega), free_at hl2.hs _, lt_of_heap hl2.hs⟩
        have HE : Hid (∀ w2 bd Fd, DiskAt w2 bd D Fd → Keep NoF w w2 → (∀ x, Fd x → w.heap.size ≤ x) → BayPost w b (B.setDev (k.toNat * 3) (some ⟨D, false, 0⟩)) F ((w2.alloc (.cells #[.pointer (some ⟨bd, 0, none⟩), .bool false, .int .i64 0] 133)).setCell ⟨bs, k.toNat * 3, none⟩ (.pointer (some ⟨w2.heap.size, 0, none⟩)))) := fun w2 bd Fd hd hkp hFd => by
          have hk3 : Keep NoF w2 (w2.alloc (.cells #[.pointer (some ⟨bd, 0, none⟩), .bool false, .int .i64 0] 133)) := Keep.alloc _ _ _
          have hl3 := (h.keep hkp (fun _ _ h => h)).keep hk3 (fun _ _ h => h)
          have hlt2 := h.lt
          have hsz2 := hkp.size
          have hdev : DevAt (w2.alloc (.cells #[.pointer (some ⟨bd, 0, none⟩), .bool false, .int .i64 0] 133)) (.pointer (some ⟨w2.heap.size, 0, none⟩)) (some { disk := D, worn := false, left := 0 }) (fun x => x = w2.heap.size ∨ Fd x) :=
            ⟨w2.heap.size, bd, Fd, rfl, heap_alloc_new w2 _, hd.keep hk3 (fun _ _ h => h), fun hx => absurd (hd.lt _ hx) (by omega), fun x => Iff.rfl⟩
          have hpl := hl3.place (i := k.toNat * 3) hdev (fun x hx hF => by
            have := hlt2 x hF
            rcases hx with rfl | hx
            · omega
            · have := hFd x hx; omega) (by omega) ⟨by show (0 : Int) ≤ 0; decide, by show (0 : Int) ≤ 9223372036854775807; decide⟩
          have hkk2 : Keep (· = bs) (w2.alloc (.cells #[.pointer (some ⟨bd, 0, none⟩), .bool false, .int .i64 0] 133)) _ := Keep.setCell (F := (· = bs)) _ ⟨bs, k.toNat * 3, none⟩ (.pointer (some ⟨w2.heap.size, 0, none⟩)) rfl
          have hbsF : F bs := (h.hF bs).2 (.inr (.inl rfl))
          refine ⟨_, ⟨bs, _, _, hpl⟩, (((hkp.trans' hk3).mono fun _ _ h => h.elim)).trans' (hkk2.mono fun x _ e => (show x = bs from e) ▸ hbsF), ?_⟩
          rintro x (rfl | rfl | ⟨j, hj⟩)
          · exact .inl ((h.hF _).2 (.inl rfl))
          · exact .inl hbsF
          · by_cases e : j = k.toNat * 3
            · subst e; rw [put_same] at hj
              rcases hj with rfl | hj
              · exact .inr hsz2
              · exact .inr (hFd x hj)
            · rw [put_other _ _ e] at hj
              exact .inl ((h.hF x).2 (.inr (.inr ⟨j, hj⟩)))
        clear h hkk es hq hm ht hk
        go_enter Try.func96, Try.ntmps96
        go_wp2_with (first | (go_at_call 92; go_must (refine HA.out.mono ?_); rintro e w' ⟨rfl, rfl⟩) | (go_at_call 93; go_must (refine HT.out.mono ?_); rintro e w' ⟨rfl, rfl⟩) | (go_at_call 98; go_must (refine HM.out.mono ?_); rintro e w2 ⟨v, rfl, bd, Fd, rfl, hq⟩; have HQ := Lib.hid hq; clear hq; obtain ⟨q1, q2, q3⟩ := HC.out w2 HQ.out.2.1))
        go_ret
        rw [setCell_alloc_comm _ _ _ _ q3]
        exact ⟨_, rfl, _, rfl, HE.out _ _ _ HQ.out.1 HQ.out.2.1 HQ.out.2.2⟩
  · rw [if_neg hk]
    have es : slotPtr bs B.n k = .pointer none := by unfold slotPtr; exact if_neg hk
    rw [es] at HA
    clear h es hk hm
    go_enter Try.func96, Try.ntmps96
    go_wp2_with (go_at_call 92; go_must (refine HA.out.mono ?_); rintro e w' ⟨rfl, rfl⟩)
    go_ret
    exact ⟨_, rfl, _, rfl, hsame.out⟩
theorem made_97 {w : World} {g : Nat} {n : Int} (hc : w.cell? ⟨g, 0, none⟩ = some (.int .i64 n)) : Calls Try.prog 97 #[.pointer (some ⟨g, 0, none⟩)] w (Gives (Made w (if 1 ≤ n ∧ n ≤ 8192 then some (Dk.new n.toNat) else none))) := by
  have hn := new_any n w
  by_cases h : 1 ≤ n ∧ n ≤ 8192
  · rw [if_pos h]
    simp only [if_pos h] at hn
    have HN := Lib.hid hn
    clear hn
    go_enter Try.func97, Try.ntmps97
    go_wp2_with (go_at_call 35; go_must (refine HN.out.mono ?_); rintro e w2 ⟨v, rfl, bd, Fd, rfl, hq⟩; have HQ := Lib.hid hq; clear hq)
    go_ret2
    exact ⟨_, rfl, _, _, rfl, HQ.out⟩
  · rw [if_neg h]
    simp only [if_neg h] at hn
    have HN := Lib.hid hn
    clear hn
    go_enter Try.func97, Try.ntmps97
    go_wp2_with (go_at_call 35; go_must (refine HN.out.mono ?_); rintro e w2 ⟨v, rfl, rfl, rfl⟩)
    go_ret2
    exact ⟨_, rfl, rfl, rfl⟩
theorem made_98 {w : World} {g : Nat} {x : Option Addr} {cap : Nat} {l : List Int} (hc : w.cell? ⟨g, 0, none⟩ = some (.slice x l.length cap)) (hv : BytesAt w (.slice x l.length cap) l) : Calls Try.prog 98 #[.pointer (some ⟨g, 0, none⟩)] w (Gives (Made w (if loadOk l then some (Dk.of l) else none))) := by
  have hn := load_any hv
  unfold LoadPost at hn
  by_cases h : loadOk l
  · rw [if_pos h]
    simp only [if_pos h] at hn
    have HN := Lib.hid hn
    clear hn hv
    go_enter Try.func98, Try.ntmps98
    go_wp2_with (go_at_call 12; go_must (refine HN.out.mono ?_); rintro e w2 ⟨v, rfl, bd, Fd, rfl, hq⟩; have HQ := Lib.hid hq; clear hq)
    go_ret2
    exact ⟨_, rfl, _, _, rfl, HQ.out⟩
  · rw [if_neg h]
    simp only [if_neg h] at hn
    have HN := Lib.hid hn
    clear hn hv
    go_enter Try.func98, Try.ntmps98
    go_wp2_with (go_at_call 12; go_must (refine HN.out.mono ?_); rintro e w2 ⟨v, rfl, rfl, rfl⟩)
    go_ret2
    exact ⟨_, rfl, rfl, rfl⟩

def By.swap (B : By) (k n : Int) : By := if n < 0 then B else B.lay k (if 1 ≤ n ∧ n ≤ 8192 then some (Dk.new n.toNat) else none)
theorem BayPost.before {w0 w w' : World} {b : Nat} {B' : By} {F : Nat → Prop} (hk : Keep NoF w0 w) (h : BayPost w b B' F w') : BayPost w0 b B' F w' := by
  obtain ⟨F2, g1, g2, g3⟩ := h
  exact ⟨F2, g1, (hk.mono fun _ _ h => h.elim).trans' g2, fun x hx => (g3 x hx).imp id (fun h => Nat.le_trans hk.size h)⟩
set_option maxHeartbeats 1000000 in
theorem swap_any {w : World} {b : Nat} {B : By} {F : Nat → Prop} (h : BayAt w b B F) (k n : Int) : Calls Try.prog 48 #[.pointer (some ⟨b, 0, none⟩), .int .i64 k, .int .i64 n] w (Gives (SomeCode (BayPost w b (B.swap k n) F))) := by
  have hk : Keep NoF w (w.alloc (.cells #[.int .i64 n] 3)) := Keep.alloc _ _ _
  have h' := h.keep hk (fun _ _ h => h)
  have hc : (w.alloc (.cells #[.int .i64 n] 3)).cell? ⟨w.heap.size, 0, none⟩ = some (.int .i64 n) := cell_at (heap_alloc_new w _) 0 rfl
  unfold By.swap
  by_cases hn : n < 0
  · rw [if_pos hn]
    have HP : Hid (BayPost w b B F (w.alloc (.cells #[.int .i64 n] 3))) := BayPost.before hk (BayPost.same h')
    clear h h' hk
    go_enter Try.func48, Try.ntmps48
    go_wp2
    go_ret
    exact ⟨_, rfl, _, rfl, HP.out⟩
  · rw [if_neg hn]
    have HL := Lib.hid (lay_97 h' k _ (made_97 hc))
    have HP : Hid (∀ w', BayPost (w.alloc (.cells #[.int .i64 n] 3)) b (B.lay k (if 1 ≤ n ∧ n ≤ 8192 then some (Dk.new n.toNat) else none)) F w' → BayPost w b (B.lay k (if 1 ≤ n ∧ n ≤ 8192 then some (Dk.new n.toNat) else none)) F w') := fun w' hq => BayPost.before hk hq
    generalize B.lay k (if 1 ≤ n ∧ n ≤ 8192 then some (Dk.new n.toNat) else none) = B' at *
    clear h h' hk
    go_enter Try.func48, Try.ntmps48
    go_wp2_with (go_at_call 96; go_must (refine HL.out.mono ?_); rintro e w' ⟨v, rfl, c, rfl, hv⟩; have HV := Lib.hid (HP.out _ hv); clear hv)
    go_ret
    exact ⟨_, rfl, _, rfl, HV.out⟩

def By.load (B : By) (k : Int) (l : List Int) : By := B.lay k (if loadOk l then some (Dk.of l) else none)
set_option maxHeartbeats 1000000 in
theorem bload_any {w : World} {b : Nat} {B : By} {F : Nat → Prop} (h : BayAt w b B F) (k : Int) {v : Value} {l : List Int} (hv : BytesAt w v l) : Calls Try.prog 49 #[.pointer (some ⟨b, 0, none⟩), .int .i64 k, v] w (Gives (SomeCode (BayPost w b (B.load k l) F))) := by
  obtain ⟨x, cap, rfl, -, -, -⟩ := id hv
  have hk : Keep NoF w (w.alloc (.cells #[.slice x l.length cap] 22)) := Keep.alloc _ _ _
  have h' := h.keep hk (fun _ _ h => h)
  have hc : (w.alloc (.cells #[.slice x l.length cap] 22)).cell? ⟨w.heap.size, 0, none⟩ = some (.slice x l.length cap) := cell_at (heap_alloc_new w _) 0 rfl
  have HL := Lib.hid (lay_98 h' k _ (made_98 hc (hv.keep2 hk (fun _ _ _ _ _ h => h))))
  have HP : Hid (∀ w', BayPost (w.alloc (.cells #[.slice x l.length cap] 22)) b (B.load k l) F w' → BayPost w b (B.load k l) F w') := fun w' hq => BayPost.before hk hq
  change Hid (Calls Try.prog 96 _ _ (Gives (SomeCode (BayPost _ b (B.load k l) F)))) at HL
  generalize B.load k l = B' at *
  clear h h' hk hv
  go_enter Try.func49, Try.ntmps49
  go_wp2_with (go_at_call 96; go_must (refine HL.out.mono ?_); rintro e w' ⟨v, rfl, c, rfl, hv⟩; have HV := Lib.hid (HP.out _ hv); clear hv)
  go_ret
  exact ⟨_, rfl, _, rfl, HV.out⟩
end Go.Proofs.Ytghnbbpoaeheaaa
