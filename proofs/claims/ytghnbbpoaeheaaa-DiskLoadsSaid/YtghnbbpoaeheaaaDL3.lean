/- The disk's functions, walked: settle. -/
import Derived.Test.YtghnbbpoaeheaaaDL2
import Derived.Deep.RegionHeld3
namespace Go.Proofs.Ytghnbbpoaeheaaa
open Go.RowKit

theorem length_lasCells {las : List (List Int)} (h : ∀ s ∈ las, s.length = 128) : (lasCells las).length = las.length * 128 := by
  unfold lasCells
  rw [length_u8s]
  induction las with
  | nil => rfl
  | cons s r ih => rw [List.flatten_cons, List.length_append, ih (fun x hx => h x (List.mem_cons_of_mem _ hx)), h s List.mem_cons_self, List.length_cons]; omega

theorem Keep.setCells' (w : World) (b o : Nat) (vs : List Value) : Keep (· = b) w (w.setCells b o vs) := by
  induction vs generalizing w o with
  | nil => exact Keep.refl _ _
  | cons v r ih => exact (Keep.setCell (F := (· = b)) w ⟨b, o, none⟩ v rfl).trans' (ih _ _)

theorem over_mid (A S B D : List Value) (h : S.length = D.length) : over (A ++ S ++ B).toArray A.length D = (A ++ D ++ B).toArray := by
  apply Array.ext_getElem?
  intro i
  rw [get_over _ _ _ _ (by simp; omega)]
  by_cases h1 : A.length ≤ i ∧ i < A.length + D.length
  · rw [if_pos h1, List.getElem?_toArray, List.append_assoc, List.getElem?_append_right h1.1, List.getElem?_append_left (by omega)]
  · rw [if_neg h1, List.getElem?_toArray, List.getElem?_toArray]
    by_cases h2 : i < A.length
    · rw [List.append_assoc, List.append_assoc, List.getElem?_append_left h2, List.getElem?_append_left h2]
    · have h3 : A.length + D.length ≤ i := by omega
      rw [List.getElem?_append_right (by simp; omega), List.getElem?_append_right (by simp; omega)]
      simp [h]
theorem lasCells_append (a b : List (List Int)) : lasCells (a ++ b) = lasCells a ++ lasCells b := by simp [lasCells, u8s]
theorem over_las {las : List (List Int)} {k : Nat} {d : List Int} (h : ∀ s ∈ las, s.length = 128) (hd : d.length = 128) (hk : k < las.length) :
    over (lasCells las).toArray (k * 128) (u8s d) = (lasCells (las.set k d)).toArray := by
  have e : las = las.take k ++ [las[k]] ++ las.drop (k + 1) := by simp
  have e2 : las.set k d = las.take k ++ [d] ++ las.drop (k + 1) := by
    rw [List.set_eq_take_append_cons_drop, if_pos hk]; simp
  have hl : (lasCells (las.take k)).length = k * 128 := by
    rw [length_lasCells (fun s hs => h s (List.mem_of_mem_take hs)), List.length_take, Nat.min_eq_left (Nat.le_of_lt hk)]
  have hs : (lasCells [las[k]]).length = (u8s d).length := by
    rw [length_lasCells (by intro s hs; simp at hs; subst hs; exact h _ (List.getElem_mem hk)), length_u8s, hd]; rfl
  have hd1 : lasCells [d] = u8s d := by simp [lasCells]
  rw [e2]
  conv => lhs; rw [e]
  rw [lasCells_append, lasCells_append, lasCells_append, lasCells_append, hd1, ← hl]
  exact over_mid _ _ _ _ hs

/-- How far the settling has come. -/
def Settling (w : World) (bL : Nat) (las : List (List Int)) (wr : World) : Prop :=
  Keep (· = bL) w wr ∧ wr.heap[bL]? = some (.cells (lasCells las).toArray 102 (0, 0))

/-- The world behind a settling. -/
def SettleEnd (w : World) (b bL bS ck : Nat) (las : List (List Int)) (w' : World) : Prop :=
  ∃ wr, Settling w bL las wr ∧ w' = { wr.setCell ⟨b, 1, none⟩ (.slice none 0 0) with heap := (wr.setCell ⟨b, 1, none⟩ (.slice none 0 0)).heap.setIfInBounds bS (.map #[] ck) }

set_option maxRecDepth 100000 in
set_option maxHeartbeats 1000000 in
theorem settle_85 (w : World) (b bL bS bC cap n : Nat)  (cache : List (Nat × List Int)) (las : List (List Int)) (keep : Nat → Bool) (failed : Bool) (es : Array MapEntry) (ck : Nat)
    (hb : w.heap[b]? = some (.cells #[.slice (some ⟨bL, 0, none⟩) n n, .slice (some ⟨bC, 0, none⟩) cache.length cap, .map (some bS), .bool failed] 100 (0, 0)))
    (hbL : w.heap[bL]? = some (.cells (lasCells las).toArray 102 (0, 0))) (hbS : w.heap[bS]? = some (.map es ck))
    (hent : ∀ j k d, cache[j]? = some (k, d) → w.rangeAt bC (j * 129) (entCells (k, d)) ∧ k < n ∧ d.length = 128) (hn : las.length = n) (hsec : ∀ s ∈ las, s.length = 128) (hbC : bC ≠ bL) (hbb : b ≠ bL) (hSL : bS ≠ bL) (hSb : bS ≠ b) (hcb : bC < w.heap.size) (hcl : cache.length ≤ 1000000)
    (hcall : ∀ (i : Nat) (w' : World), i < cache.length → Keep (· = bL) w w' → Calls Try.prog 85 #[.int .i64 i] w' fun e w'' => e = .returned (.bool (keep i)) ∧ w' = w'') :
    Calls Try.prog 84 #[.pointer (some ⟨b, 0, none⟩), .func (.func 85) #[] #[]] w (Gives fun v w' => v = .tuple #[] ∧ SettleEnd w b bL bS ck (settled keep 0 cache las) w') := by
  have h0 := cell_at hb 0 rfl
  have h1 := cell_at hb 1 rfl
  have h2 := cell_at hb 2 rfl
  have HC := Lib.hid hcall
  have HE := Lib.hid hent
  have HN := Lib.hid hn
  have HSEC := Lib.hid hsec
  have HBL := Lib.hid hbL
  have HB := Lib.hid hb
  have HS := Lib.hid hbS
  clear hcall hent hn hsec hbL hb hbS
  go_enter Try.func84, Try.ntmps84
  go_wp2_with fail
  go_loopw [11] (fun t wr => ∃ i : Nat, i ≤ cache.length ∧ t = .int .i64 i ∧ Settling w bL (settled keep 0 (cache.take i) las) wr) (fun t _ => cache.length - (intOf t).toNat)
  case atStart => exact ⟨0, Nat.zero_le _, rfl, Keep.refl _ _, by rw [List.take_zero]; exact HBL.out⟩
  case round =>
    obtain ⟨i, hi, rfl, hset⟩ := hrel
    by_cases hlt : i < cache.length
    · obtain ⟨⟨k, d⟩, he⟩ : ∃ e, cache[i]? = some e := ⟨_, List.getElem?_eq_getElem hlt⟩
      obtain ⟨hr, hk, hd⟩ := HE.out i k d he
      have hsz : (entCells (k, d)).length = 129 := by simp [entCells, hd]
      have hrr : wr.rangeAt bC (i * 129) (entCells (k, d)) := fun j u hu => by
        have := hr j u hu
        rw [World.cell?_of_block (w := w) (hset.1.block bC hcb hbC)]; exact this
      have HR := Lib.hid hrr
      have HI := Lib.hid (show (Try.prog.info? 142).map (·.size) = some (entCells (k, d)).length by rw [size142, hsz])
      have HI2 := Lib.hid (show (Try.prog.info? 142).map (·.size) = some (entCells (k, d)).toArray.size by rw [size142, List.size_toArray, hsz])
      have HZ2 := Lib.hid (show (Zof 142).size = (entCells (k, d)).toArray.size by rw [zofs142, List.size_toArray, hsz])
      obtain ⟨z, hz, hzZ⟩ := zv142 wr
      have HZ := Lib.hid hz
      have HZZ := Lib.hid hzZ
      have HA : Hid ((entCells (k, d)).toArray.all (·.oneCell') = true) := all_oneCell_toArray (by intro v hv; rcases List.mem_cons.1 hv with rfl | hv; rfl; exact u8s_one d v hv)
      have hlen := length_settled keep (cache.take i) 0 las
      rw [HN.out] at hlen
      have hent' : ∀ e ∈ cache, e.2.length = 128 := fun e he => by
        obtain ⟨j, hj⟩ := List.getElem?_of_mem he
        exact (HE.out j e.1 e.2 hj).2.2
      have hW : Keep (· = bL) w (wr.alloc (.cells (entCells (k, d)).toArray 142)) := hset.1.trans' (Keep.alloc _ _ _)
      have hci := HC.out i _ hlt hW
      have hsnoc : cache.take (i + 1) = cache.take i ++ [(k, d)] := by rw [List.take_add_one, he]; rfl
      have hbz : b < wr.heap.size := Nat.lt_of_lt_of_le (lt_of_heap HB.out) hset.1.size
      have hc0 : (wr.alloc (.cells (entCells (k, d)).toArray 142)).cell? ⟨b, 0, none⟩ = some (.slice (some ⟨bL, 0, none⟩) n n) := cell_at (hW.at HB.out hbb) 0 rfl
      have hcw : (wr.alloc (.cells (entCells (k, d)).toArray 142)).cell? ⟨wr.heap.size, 0, none⟩ = some (.int .i64 k) := cell_at (heap_alloc_new wr _) 0 (by simp [entCells])
      have hcr : (wr.alloc (.cells (entCells (k, d)).toArray 142)).rangeAt wr.heap.size 1 (u8s d) := range_at (heap_alloc_new wr _) 1 _ (by rw [List.toList_toArray]; exact List.take_length)
      have hbLw := (Keep.alloc (fun _ => False) wr (.cells (entCells (k, d)).toArray 142)).at hset.2 (by simp)
      have hthere : (wr.alloc (.cells (entCells (k, d)).toArray 142)).there bL (k * 128) 128 := there_at hbLw _ _ (by
        rw [List.size_toArray, length_lasCells (sec_settled keep _ _ _ (fun e he => hent' e (List.mem_of_mem_take he)) HSEC.out), hlen]
        omega)
      have HSET := Lib.hid hset
      have HD := Lib.hid hd
      have HSN := Lib.hid hsnoc
      have HBLW := Lib.hid hbLw
      have HW := Lib.hid hW
      have HLEN := Lib.hid hlen
      have hi102 : (Try.prog.info? 102).map (·.size) = some (u8s d).length := by rw [size102, length_u8s, hd]
      have hu102 := Try.underlying102
      have hone := u8s_one d
      obtain ⟨w4, hw4⟩ : ∃ w4, w4 = wr.alloc (.cells (entCells (k, d)).toArray 142) := ⟨_, rfl⟩
      obtain ⟨bw, hbw⟩ : ∃ bw, bw = wr.heap.size := ⟨_, rfl⟩
      cases hki : keep i
      · rw [hki] at hci
        have HKI := Lib.hid hki
        have HCI := Lib.hid hci
        clear hr hrr hsz hz hzZ hset hd he h1 h2 h0 hsnoc hbLw hW hlen hent' hci hki hthere hw4 hbw hc0 hcw hcr
        go_wp2_with (first | ((with_reducible refine wpList_load_mid rfl 142 _ rfl bC (i*129) ?_ (entCells (k, d)) _ HR.out Try.underlying142 rfl HI.out ?_); (next => rfl)) | (with_reducible refine wpList_alloc_Z rfl 142 rfl z (Zof 142) HZ.out HZZ.out ?_) | ((with_reducible refine wpList_store_new rfl 142 _ _ rfl (Zof 142) (entCells (k, d)).toArray 142 ?_ ?_ HI2.out HZ2.out HA.out ?_); (next => rfl); (next => rfl)) | (go_at_call 85; go_must (refine HCI.out.mono ?_); rintro e w' ⟨rfl, rfl⟩))
        refine ⟨⟨i + 1, by omega, by go_num, HW.out, ?_⟩, by simp [intOf]; omega⟩
        rw [HSN.out, settled_snoc, Nat.zero_add, List.length_take, Nat.min_eq_left (Nat.le_of_lt hlt), if_neg (by rw [HKI.out]; decide)]
        exact HBLW.out
      · rw [hki] at hci
        have HKI := Lib.hid hki
        have HCI := Lib.hid hci
        have HT := Lib.hid hthere
        have HENT := Lib.hid hent'
        clear hr hrr hsz hz hzZ hset hd he h1 h2 h0 hsnoc hbLw hW hlen hent' hci hki hthere
        go_wp2_with (first | ((with_reducible refine wpList_load_mid rfl 142 _ rfl bC (i*129) ?_ (entCells (k, d)) _ HR.out Try.underlying142 rfl HI.out ?_); (next => rfl)) | (with_reducible refine wpList_alloc_Z rfl 142 rfl z (Zof 142) HZ.out HZZ.out ?_) | ((with_reducible refine wpList_store_new rfl 142 _ _ rfl (Zof 142) (entCells (k, d)).toArray 142 ?_ ?_ HI2.out HZ2.out HA.out ?_); (next => rfl); (next => rfl)) | (go_at_call 85; go_must (refine HCI.out.mono ?_); rintro e w' ⟨rfl, rfl⟩))
        rw [← hw4, ← hbw]
        rw [← hw4] at hc0
        rw [← hw4, ← hbw] at hcw hcr
        have hth2 : w4.drew.there bL (k * 128) (u8s d).length := by rw [length_u8s, HD.out, hw4]; exact HT.out
        have HBL4 : Hid (w4.drew.heap[bL]? = some (.cells (lasCells (settled keep 0 (cache.take i) las)).toArray 102 (0, 0))) := by rw [hw4]; exact HBLW.out
        have HW4 : Hid (Keep (· = bL) w w4.drew) := by rw [hw4]; exact HW.out.trans' (Keep.drew _ _)
        have hneb : bw ≠ bL := by rw [hbw]; exact fun e => absurd (lt_of_heap HSET.out.2) (by omega)
        have q0 : (w4.drew.setCells bL (k * 128) (u8s d)).cell? ⟨b, 0, none⟩ = some (.slice (some ⟨bL, 0, none⟩) n n) := by
          rw [World.cell?_setCells_out bL (u8s d) (k * 128) w4.drew ⟨b, 0, none⟩ (fun e _ => absurd e hbb)]; exact hc0
        have q1 : (w4.drew.setCells bL (k * 128) (u8s d)).cell? ⟨bw, 0, none⟩ = some (.int .i64 k) := by
          rw [World.cell?_setCells_out bL (u8s d) (k * 128) w4.drew ⟨bw, 0, none⟩ (fun e _ => absurd e hneb)]; exact hcw
        have q2 : (w4.drew.setCells bL (k * 128) (u8s d)).rangeAt bw 1 (u8s d) := World.rangeAt_setCells_apart (w := w4.drew) hcr _ _ _ (.inl hneb)
        clear hw4 hbw
        go_region_held3 (fun w' => w'.cell? ⟨b, 0, none⟩ = some (.slice (some ⟨bL, 0, none⟩) n n) ∧ w'.cell? ⟨bw, 0, none⟩ = some (.int .i64 k) ∧ w'.rangeAt bw 1 (u8s d)) (first | exact ⟨q0, q1, q2⟩ | go_keep_ranges) (first | (fail))
        clear q0 q1 q2 hc0 hcw hcr hth2
        go_wp2
        refine ⟨⟨i + 1, by omega, by go_num, HW4.out.trans' (Keep.setCells' _ _ _ _), ?_⟩, by simp [intOf]; omega⟩
        rw [HSN.out, settled_snoc, Nat.zero_add, List.length_take, Nat.min_eq_left (Nat.le_of_lt hlt), if_pos HKI.out]
        rw [setCells_over _ _ _ _ _ _ _ HBL4.out, over_las (sec_settled keep _ _ _ (fun e he => HENT.out e (List.mem_of_mem_take he)) HSEC.out) HD.out (by rw [HLEN.out]; exact hk)]
        exact setRow_heap _ _ _ _ _ _ HBL4.out
    · have hie : i = cache.length := by omega
      subst hie
      have hbw := hset.1.at HB.out hbb
      have hSw := hset.1.at HS.out hSL
      have k1 := cell_at hbw 1 rfl
      have k2 := cell_at hbw 2 rfl
      have f1 := free_at hbw 1
      have hclr := fun ty => run_clear_seen (wr.setCell ⟨b, 1, none⟩ (.slice none 0 0)) bS es ck ty ((Below.heap_setCell wr ⟨b, 1, none⟩ _ bS (fun e => hSb e)).trans hSw)
      have HSET := Lib.hid hset
      clear hset hbw hSw hbC hbb hcb hlt hi h0 h1 h2
      go_wp2
      go_end0
      refine ⟨_, rfl, rfl, wr, ?_, rfl⟩
      have := HSET.out
      rwa [List.take_length] at this

set_option maxHeartbeats 400000 in
theorem settle_nil_85 (w : World) (b bL bS n : Nat) (las : List (List Int)) (keep : Nat → Bool) (failed : Bool) (es : Array MapEntry) (ck : Nat)
    (hb : w.heap[b]? = some (.cells #[.slice (some ⟨bL, 0, none⟩) n n, .slice none 0 0, .map (some bS), .bool failed] 100 (0, 0)))
    (hbL : w.heap[bL]? = some (.cells (lasCells las).toArray 102 (0, 0))) (hbS : w.heap[bS]? = some (.map es ck)) (hSb : bS ≠ b) :
    Calls Try.prog 84 #[.pointer (some ⟨b, 0, none⟩), .func (.func 85) #[] #[]] w (Gives fun v w' => v = .tuple #[] ∧ SettleEnd w b bL bS ck (settled keep 0 [] las) w') := by
  have k1 := cell_at hb 1 rfl
  have k2 := cell_at hb 2 rfl
  have f1 := free_at hb 1
  have hclr := fun ty => run_clear_seen (w.setCell ⟨b, 1, none⟩ (.slice none 0 0)) bS es ck ty ((Below.heap_setCell w ⟨b, 1, none⟩ _ bS (fun e => hSb e)).trans hbS)
  have HBL := Lib.hid hbL
  clear hb hbL hbS hSb
  go_enter Try.func84, Try.ntmps84
  go_wp2_with fail
  refine wp_loop_rounds 1 ?_
  rw [rounds_succ]
  go_wp2
  go_end0
  exact ⟨_, rfl, rfl, w, ⟨Keep.refl _ _, HBL.out⟩, rfl⟩

set_option maxRecDepth 100000 in
set_option maxHeartbeats 1000000 in
theorem settle_101 (w : World) (b bL bS bC cap n : Nat)  (cache : List (Nat × List Int)) (las : List (List Int)) (keep : Nat → Bool) (failed : Bool) (es : Array MapEntry) (ck : Nat)
    (hb : w.heap[b]? = some (.cells #[.slice (some ⟨bL, 0, none⟩) n n, .slice (some ⟨bC, 0, none⟩) cache.length cap, .map (some bS), .bool failed] 100 (0, 0)))
    (hbL : w.heap[bL]? = some (.cells (lasCells las).toArray 102 (0, 0))) (hbS : w.heap[bS]? = some (.map es ck))
    (hent : ∀ j k d, cache[j]? = some (k, d) → w.rangeAt bC (j * 129) (entCells (k, d)) ∧ k < n ∧ d.length = 128) (hn : las.length = n) (hsec : ∀ s ∈ las, s.length = 128) (hbC : bC ≠ bL) (hbb : b ≠ bL) (hSL : bS ≠ bL) (hSb : bS ≠ b) (hcb : bC < w.heap.size) (hcl : cache.length ≤ 1000000)
    (hcall : ∀ (i : Nat) (w' : World), i < cache.length → Keep (· = bL) w w' → Calls Try.prog 101 #[.int .i64 i] w' fun e w'' => e = .returned (.bool (keep i)) ∧ w' = w'') :
    Calls Try.prog 84 #[.pointer (some ⟨b, 0, none⟩), .func (.func 101) #[] #[]] w (Gives fun v w' => v = .tuple #[] ∧ SettleEnd w b bL bS ck (settled keep 0 cache las) w') := by
  have h0 := cell_at hb 0 rfl
  have h1 := cell_at hb 1 rfl
  have h2 := cell_at hb 2 rfl
  have HC := Lib.hid hcall
  have HE := Lib.hid hent
  have HN := Lib.hid hn
  have HSEC := Lib.hid hsec
  have HBL := Lib.hid hbL
  have HB := Lib.hid hb
  have HS := Lib.hid hbS
  clear hcall hent hn hsec hbL hb hbS
  go_enter Try.func84, Try.ntmps84
  go_wp2_with fail
  go_loopw [11] (fun t wr => ∃ i : Nat, i ≤ cache.length ∧ t = .int .i64 i ∧ Settling w bL (settled keep 0 (cache.take i) las) wr) (fun t _ => cache.length - (intOf t).toNat)
  case atStart => exact ⟨0, Nat.zero_le _, rfl, Keep.refl _ _, by rw [List.take_zero]; exact HBL.out⟩
  case round =>
    obtain ⟨i, hi, rfl, hset⟩ := hrel
    by_cases hlt : i < cache.length
    · obtain ⟨⟨k, d⟩, he⟩ : ∃ e, cache[i]? = some e := ⟨_, List.getElem?_eq_getElem hlt⟩
      obtain ⟨hr, hk, hd⟩ := HE.out i k d he
      have hsz : (entCells (k, d)).length = 129 := by simp [entCells, hd]
      have hrr : wr.rangeAt bC (i * 129) (entCells (k, d)) := fun j u hu => by
        have := hr j u hu
        rw [World.cell?_of_block (w := w) (hset.1.block bC hcb hbC)]; exact this
      have HR := Lib.hid hrr
      have HI := Lib.hid (show (Try.prog.info? 142).map (·.size) = some (entCells (k, d)).length by rw [size142, hsz])
      have HI2 := Lib.hid (show (Try.prog.info? 142).map (·.size) = some (entCells (k, d)).toArray.size by rw [size142, List.size_toArray, hsz])
      have HZ2 := Lib.hid (show (Zof 142).size = (entCells (k, d)).toArray.size by rw [zofs142, List.size_toArray, hsz])
      obtain ⟨z, hz, hzZ⟩ := zv142 wr
      have HZ := Lib.hid hz
      have HZZ := Lib.hid hzZ
      have HA : Hid ((entCells (k, d)).toArray.all (·.oneCell') = true) := all_oneCell_toArray (by intro v hv; rcases List.mem_cons.1 hv with rfl | hv; rfl; exact u8s_one d v hv)
      have hlen := length_settled keep (cache.take i) 0 las
      rw [HN.out] at hlen
      have hent' : ∀ e ∈ cache, e.2.length = 128 := fun e he => by
        obtain ⟨j, hj⟩ := List.getElem?_of_mem he
        exact (HE.out j e.1 e.2 hj).2.2
      have hW : Keep (· = bL) w (wr.alloc (.cells (entCells (k, d)).toArray 142)) := hset.1.trans' (Keep.alloc _ _ _)
      have hci := HC.out i _ hlt hW
      have hsnoc : cache.take (i + 1) = cache.take i ++ [(k, d)] := by rw [List.take_add_one, he]; rfl
      have hbz : b < wr.heap.size := Nat.lt_of_lt_of_le (lt_of_heap HB.out) hset.1.size
      have hc0 : (wr.alloc (.cells (entCells (k, d)).toArray 142)).cell? ⟨b, 0, none⟩ = some (.slice (some ⟨bL, 0, none⟩) n n) := cell_at (hW.at HB.out hbb) 0 rfl
      have hcw : (wr.alloc (.cells (entCells (k, d)).toArray 142)).cell? ⟨wr.heap.size, 0, none⟩ = some (.int .i64 k) := cell_at (heap_alloc_new wr _) 0 (by simp [entCells])
      have hcr : (wr.alloc (.cells (entCells (k, d)).toArray 142)).rangeAt wr.heap.size 1 (u8s d) := range_at (heap_alloc_new wr _) 1 _ (by rw [List.toList_toArray]; exact List.take_length)
      have hbLw := (Keep.alloc (fun _ => False) wr (.cells (entCells (k, d)).toArray 142)).at hset.2 (by simp)
      have hthere : (wr.alloc (.cells (entCells (k, d)).toArray 142)).there bL (k * 128) 128 := there_at hbLw _ _ (by
        rw [List.size_toArray, length_lasCells (sec_settled keep _ _ _ (fun e he => hent' e (List.mem_of_mem_take he)) HSEC.out), hlen]
        omega)
      have HSET := Lib.hid hset
      have HD := Lib.hid hd
      have HSN := Lib.hid hsnoc
      have HBLW := Lib.hid hbLw
      have HW := Lib.hid hW
      have HLEN := Lib.hid hlen
      have hi102 : (Try.prog.info? 102).map (·.size) = some (u8s d).length := by rw [size102, length_u8s, hd]
      have hu102 := Try.underlying102
      have hone := u8s_one d
      obtain ⟨w4, hw4⟩ : ∃ w4, w4 = wr.alloc (.cells (entCells (k, d)).toArray 142) := ⟨_, rfl⟩
      obtain ⟨bw, hbw⟩ : ∃ bw, bw = wr.heap.size := ⟨_, rfl⟩
      cases hki : keep i
      · rw [hki] at hci
        have HKI := Lib.hid hki
        have HCI := Lib.hid hci
        clear hr hrr hsz hz hzZ hset hd he h1 h2 h0 hsnoc hbLw hW hlen hent' hci hki hthere hw4 hbw hc0 hcw hcr
        go_wp2_with (first | ((with_reducible refine wpList_load_mid rfl 142 _ rfl bC (i*129) ?_ (entCells (k, d)) _ HR.out Try.underlying142 rfl HI.out ?_); (next => rfl)) | (with_reducible refine wpList_alloc_Z rfl 142 rfl z (Zof 142) HZ.out HZZ.out ?_) | ((with_reducible refine wpList_store_new rfl 142 _ _ rfl (Zof 142) (entCells (k, d)).toArray 142 ?_ ?_ HI2.out HZ2.out HA.out ?_); (next => rfl); (next => rfl)) | (go_at_call 101; go_must (refine HCI.out.mono ?_); rintro e w' ⟨rfl, rfl⟩))
        refine ⟨⟨i + 1, by omega, by go_num, HW.out, ?_⟩, by simp [intOf]; omega⟩
        rw [HSN.out, settled_snoc, Nat.zero_add, List.length_take, Nat.min_eq_left (Nat.le_of_lt hlt), if_neg (by rw [HKI.out]; decide)]
        exact HBLW.out
      · rw [hki] at hci
        have HKI := Lib.hid hki
        have HCI := Lib.hid hci
        have HT := Lib.hid hthere
        have HENT := Lib.hid hent'
        clear hr hrr hsz hz hzZ hset hd he h1 h2 h0 hsnoc hbLw hW hlen hent' hci hki hthere
        go_wp2_with (first | ((with_reducible refine wpList_load_mid rfl 142 _ rfl bC (i*129) ?_ (entCells (k, d)) _ HR.out Try.underlying142 rfl HI.out ?_); (next => rfl)) | (with_reducible refine wpList_alloc_Z rfl 142 rfl z (Zof 142) HZ.out HZZ.out ?_) | ((with_reducible refine wpList_store_new rfl 142 _ _ rfl (Zof 142) (entCells (k, d)).toArray 142 ?_ ?_ HI2.out HZ2.out HA.out ?_); (next => rfl); (next => rfl)) | (go_at_call 101; go_must (refine HCI.out.mono ?_); rintro e w' ⟨rfl, rfl⟩))
        rw [← hw4, ← hbw]
        rw [← hw4] at hc0
        rw [← hw4, ← hbw] at hcw hcr
        have hth2 : w4.drew.there bL (k * 128) (u8s d).length := by rw [length_u8s, HD.out, hw4]; exact HT.out
        have HBL4 : Hid (w4.drew.heap[bL]? = some (.cells (lasCells (settled keep 0 (cache.take i) las)).toArray 102 (0, 0))) := by rw [hw4]; exact HBLW.out
        have HW4 : Hid (Keep (· = bL) w w4.drew) := by rw [hw4]; exact HW.out.trans' (Keep.drew _ _)
        have hneb : bw ≠ bL := by rw [hbw]; exact fun e => absurd (lt_of_heap HSET.out.2) (by omega)
        have q0 : (w4.drew.setCells bL (k * 128) (u8s d)).cell? ⟨b, 0, none⟩ = some (.slice (some ⟨bL, 0, none⟩) n n) := by
          rw [World.cell?_setCells_out bL (u8s d) (k * 128) w4.drew ⟨b, 0, none⟩ (fun e _ => absurd e hbb)]; exact hc0
        have q1 : (w4.drew.setCells bL (k * 128) (u8s d)).cell? ⟨bw, 0, none⟩ = some (.int .i64 k) := by
          rw [World.cell?_setCells_out bL (u8s d) (k * 128) w4.drew ⟨bw, 0, none⟩ (fun e _ => absurd e hneb)]; exact hcw
        have q2 : (w4.drew.setCells bL (k * 128) (u8s d)).rangeAt bw 1 (u8s d) := World.rangeAt_setCells_apart (w := w4.drew) hcr _ _ _ (.inl hneb)
        clear hw4 hbw
        go_region_held3 (fun w' => w'.cell? ⟨b, 0, none⟩ = some (.slice (some ⟨bL, 0, none⟩) n n) ∧ w'.cell? ⟨bw, 0, none⟩ = some (.int .i64 k) ∧ w'.rangeAt bw 1 (u8s d)) (first | exact ⟨q0, q1, q2⟩ | go_keep_ranges) (first | (fail))
        clear q0 q1 q2 hc0 hcw hcr hth2
        go_wp2
        refine ⟨⟨i + 1, by omega, by go_num, HW4.out.trans' (Keep.setCells' _ _ _ _), ?_⟩, by simp [intOf]; omega⟩
        rw [HSN.out, settled_snoc, Nat.zero_add, List.length_take, Nat.min_eq_left (Nat.le_of_lt hlt), if_pos HKI.out]
        rw [setCells_over _ _ _ _ _ _ _ HBL4.out, over_las (sec_settled keep _ _ _ (fun e he => HENT.out e (List.mem_of_mem_take he)) HSEC.out) HD.out (by rw [HLEN.out]; exact hk)]
        exact setRow_heap _ _ _ _ _ _ HBL4.out
    · have hie : i = cache.length := by omega
      subst hie
      have hbw := hset.1.at HB.out hbb
      have hSw := hset.1.at HS.out hSL
      have k1 := cell_at hbw 1 rfl
      have k2 := cell_at hbw 2 rfl
      have f1 := free_at hbw 1
      have hclr := fun ty => run_clear_seen (wr.setCell ⟨b, 1, none⟩ (.slice none 0 0)) bS es ck ty ((Below.heap_setCell wr ⟨b, 1, none⟩ _ bS (fun e => hSb e)).trans hSw)
      have HSET := Lib.hid hset
      clear hset hbw hSw hbC hbb hcb hlt hi h0 h1 h2
      go_wp2
      go_end0
      refine ⟨_, rfl, rfl, wr, ?_, rfl⟩
      have := HSET.out
      rwa [List.take_length] at this

set_option maxHeartbeats 400000 in
theorem settle_nil_101 (w : World) (b bL bS n : Nat) (las : List (List Int)) (keep : Nat → Bool) (failed : Bool) (es : Array MapEntry) (ck : Nat)
    (hb : w.heap[b]? = some (.cells #[.slice (some ⟨bL, 0, none⟩) n n, .slice none 0 0, .map (some bS), .bool failed] 100 (0, 0)))
    (hbL : w.heap[bL]? = some (.cells (lasCells las).toArray 102 (0, 0))) (hbS : w.heap[bS]? = some (.map es ck)) (hSb : bS ≠ b) :
    Calls Try.prog 84 #[.pointer (some ⟨b, 0, none⟩), .func (.func 101) #[] #[]] w (Gives fun v w' => v = .tuple #[] ∧ SettleEnd w b bL bS ck (settled keep 0 [] las) w') := by
  have k1 := cell_at hb 1 rfl
  have k2 := cell_at hb 2 rfl
  have f1 := free_at hb 1
  have hclr := fun ty => run_clear_seen (w.setCell ⟨b, 1, none⟩ (.slice none 0 0)) bS es ck ty ((Below.heap_setCell w ⟨b, 1, none⟩ _ bS (fun e => hSb e)).trans hbS)
  have HBL := Lib.hid hbL
  clear hb hbL hbS hSb
  go_enter Try.func84, Try.ntmps84
  go_wp2_with fail
  refine wp_loop_rounds 1 ?_
  rw [rounds_succ]
  go_wp2
  go_end0
  exact ⟨_, rfl, rfl, w, ⟨Keep.refl _ _, HBL.out⟩, rfl⟩

set_option maxRecDepth 100000 in
set_option maxHeartbeats 1000000 in
theorem settle_86 (w : World) (b bL bS bC cap n : Nat) (bk : Nat)  (cache : List (Nat × List Int)) (las : List (List Int)) (keep : Nat → Bool) (failed : Bool) (es : Array MapEntry) (ck : Nat)
    (hb : w.heap[b]? = some (.cells #[.slice (some ⟨bL, 0, none⟩) n n, .slice (some ⟨bC, 0, none⟩) cache.length cap, .map (some bS), .bool failed] 100 (0, 0)))
    (hbL : w.heap[bL]? = some (.cells (lasCells las).toArray 102 (0, 0))) (hbS : w.heap[bS]? = some (.map es ck))
    (hent : ∀ j k d, cache[j]? = some (k, d) → w.rangeAt bC (j * 129) (entCells (k, d)) ∧ k < n ∧ d.length = 128) (hn : las.length = n) (hsec : ∀ s ∈ las, s.length = 128) (hbC : bC ≠ bL) (hbb : b ≠ bL) (hSL : bS ≠ bL) (hSb : bS ≠ b) (hcb : bC < w.heap.size) (hcl : cache.length ≤ 1000000)
    (hcall : ∀ (i : Nat) (w' : World), i < cache.length → Keep (· = bL) w w' → Calls Try.prog 86 #[.int .i64 i, .pointer (some ⟨bk, 0, none⟩)] w' fun e w'' => e = .returned (.bool (keep i)) ∧ w' = w'') :
    Calls Try.prog 84 #[.pointer (some ⟨b, 0, none⟩), .func (.func 86) #[] #[.pointer (some ⟨bk, 0, none⟩)]] w (Gives fun v w' => v = .tuple #[] ∧ SettleEnd w b bL bS ck (settled keep 0 cache las) w') := by
  have h0 := cell_at hb 0 rfl
  have h1 := cell_at hb 1 rfl
  have h2 := cell_at hb 2 rfl
  have HC := Lib.hid hcall
  have HE := Lib.hid hent
  have HN := Lib.hid hn
  have HSEC := Lib.hid hsec
  have HBL := Lib.hid hbL
  have HB := Lib.hid hb
  have HS := Lib.hid hbS
  clear hcall hent hn hsec hbL hb hbS
  go_enter Try.func84, Try.ntmps84
  go_wp2_with fail
  go_loopw [11] (fun t wr => ∃ i : Nat, i ≤ cache.length ∧ t = .int .i64 i ∧ Settling w bL (settled keep 0 (cache.take i) las) wr) (fun t _ => cache.length - (intOf t).toNat)
  case atStart => exact ⟨0, Nat.zero_le _, rfl, Keep.refl _ _, by rw [List.take_zero]; exact HBL.out⟩
  case round =>
    obtain ⟨i, hi, rfl, hset⟩ := hrel
    by_cases hlt : i < cache.length
    · obtain ⟨⟨k, d⟩, he⟩ : ∃ e, cache[i]? = some e := ⟨_, List.getElem?_eq_getElem hlt⟩
      obtain ⟨hr, hk, hd⟩ := HE.out i k d he
      have hsz : (entCells (k, d)).length = 129 := by simp [entCells, hd]
      have hrr : wr.rangeAt bC (i * 129) (entCells (k, d)) := fun j u hu => by
        have := hr j u hu
        rw [World.cell?_of_block (w := w) (hset.1.block bC hcb hbC)]; exact this
      have HR := Lib.hid hrr
      have HI := Lib.hid (show (Try.prog.info? 142).map (·.size) = some (entCells (k, d)).length by rw [size142, hsz])
      have HI2 := Lib.hid (show (Try.prog.info? 142).map (·.size) = some (entCells (k, d)).toArray.size by rw [size142, List.size_toArray, hsz])
      have HZ2 := Lib.hid (show (Zof 142).size = (entCells (k, d)).toArray.size by rw [zofs142, List.size_toArray, hsz])
      obtain ⟨z, hz, hzZ⟩ := zv142 wr
      have HZ := Lib.hid hz
      have HZZ := Lib.hid hzZ
      have HA : Hid ((entCells (k, d)).toArray.all (·.oneCell') = true) := all_oneCell_toArray (by intro v hv; rcases List.mem_cons.1 hv with rfl | hv; rfl; exact u8s_one d v hv)
      have hlen := length_settled keep (cache.take i) 0 las
      rw [HN.out] at hlen
      have hent' : ∀ e ∈ cache, e.2.length = 128 := fun e he => by
        obtain ⟨j, hj⟩ := List.getElem?_of_mem he
        exact (HE.out j e.1 e.2 hj).2.2
      have hW : Keep (· = bL) w (wr.alloc (.cells (entCells (k, d)).toArray 142)) := hset.1.trans' (Keep.alloc _ _ _)
      have hci := HC.out i _ hlt hW
      have hsnoc : cache.take (i + 1) = cache.take i ++ [(k, d)] := by rw [List.take_add_one, he]; rfl
      have hbz : b < wr.heap.size := Nat.lt_of_lt_of_le (lt_of_heap HB.out) hset.1.size
      have hc0 : (wr.alloc (.cells (entCells (k, d)).toArray 142)).cell? ⟨b, 0, none⟩ = some (.slice (some ⟨bL, 0, none⟩) n n) := cell_at (hW.at HB.out hbb) 0 rfl
      have hcw : (wr.alloc (.cells (entCells (k, d)).toArray 142)).cell? ⟨wr.heap.size, 0, none⟩ = some (.int .i64 k) := cell_at (heap_alloc_new wr _) 0 (by simp [entCells])
      have hcr : (wr.alloc (.cells (entCells (k, d)).toArray 142)).rangeAt wr.heap.size 1 (u8s d) := range_at (heap_alloc_new wr _) 1 _ (by rw [List.toList_toArray]; exact List.take_length)
      have hbLw := (Keep.alloc (fun _ => False) wr (.cells (entCells (k, d)).toArray 142)).at hset.2 (by simp)
      have hthere : (wr.alloc (.cells (entCells (k, d)).toArray 142)).there bL (k * 128) 128 := there_at hbLw _ _ (by
        rw [List.size_toArray, length_lasCells (sec_settled keep _ _ _ (fun e he => hent' e (List.mem_of_mem_take he)) HSEC.out), hlen]
        omega)
      have HSET := Lib.hid hset
      have HD := Lib.hid hd
      have HSN := Lib.hid hsnoc
      have HBLW := Lib.hid hbLw
      have HW := Lib.hid hW
      have HLEN := Lib.hid hlen
      have hi102 : (Try.prog.info? 102).map (·.size) = some (u8s d).length := by rw [size102, length_u8s, hd]
      have hu102 := Try.underlying102
      have hone := u8s_one d
      obtain ⟨w4, hw4⟩ : ∃ w4, w4 = wr.alloc (.cells (entCells (k, d)).toArray 142) := ⟨_, rfl⟩
      obtain ⟨bw, hbw⟩ : ∃ bw, bw = wr.heap.size := ⟨_, rfl⟩
      cases hki : keep i
      · rw [hki] at hci
        have HKI := Lib.hid hki
        have HCI := Lib.hid hci
        clear hr hrr hsz hz hzZ hset hd he h1 h2 h0 hsnoc hbLw hW hlen hent' hci hki hthere hw4 hbw hc0 hcw hcr
        go_wp2_with (first | ((with_reducible refine wpList_load_mid rfl 142 _ rfl bC (i*129) ?_ (entCells (k, d)) _ HR.out Try.underlying142 rfl HI.out ?_); (next => rfl)) | (with_reducible refine wpList_alloc_Z rfl 142 rfl z (Zof 142) HZ.out HZZ.out ?_) | ((with_reducible refine wpList_store_new rfl 142 _ _ rfl (Zof 142) (entCells (k, d)).toArray 142 ?_ ?_ HI2.out HZ2.out HA.out ?_); (next => rfl); (next => rfl)) | (go_at_call 86; go_must (refine HCI.out.mono ?_); rintro e w' ⟨rfl, rfl⟩))
        refine ⟨⟨i + 1, by omega, by go_num, HW.out, ?_⟩, by simp [intOf]; omega⟩
        rw [HSN.out, settled_snoc, Nat.zero_add, List.length_take, Nat.min_eq_left (Nat.le_of_lt hlt), if_neg (by rw [HKI.out]; decide)]
        exact HBLW.out
      · rw [hki] at hci
        have HKI := Lib.hid hki
        have HCI := Lib.hid hci
        have HT := Lib.hid hthere
        have HENT := Lib.hid hent'
        clear hr hrr hsz hz hzZ hset hd he h1 h2 h0 hsnoc hbLw hW hlen hent' hci hki hthere
        go_wp2_with (first | ((with_reducible refine wpList_load_mid rfl 142 _ rfl bC (i*129) ?_ (entCells (k, d)) _ HR.out Try.underlying142 rfl HI.out ?_); (next => rfl)) | (with_reducible refine wpList_alloc_Z rfl 142 rfl z (Zof 142) HZ.out HZZ.out ?_) | ((with_reducible refine wpList_store_new rfl 142 _ _ rfl (Zof 142) (entCells (k, d)).toArray 142 ?_ ?_ HI2.out HZ2.out HA.out ?_); (next => rfl); (next => rfl)) | (go_at_call 86; go_must (refine HCI.out.mono ?_); rintro e w' ⟨rfl, rfl⟩))
        rw [← hw4, ← hbw]
        rw [← hw4] at hc0
        rw [← hw4, ← hbw] at hcw hcr
        have hth2 : w4.drew.there bL (k * 128) (u8s d).length := by rw [length_u8s, HD.out, hw4]; exact HT.out
        have HBL4 : Hid (w4.drew.heap[bL]? = some (.cells (lasCells (settled keep 0 (cache.take i) las)).toArray 102 (0, 0))) := by rw [hw4]; exact HBLW.out
        have HW4 : Hid (Keep (· = bL) w w4.drew) := by rw [hw4]; exact HW.out.trans' (Keep.drew _ _)
        have hneb : bw ≠ bL := by rw [hbw]; exact fun e => absurd (lt_of_heap HSET.out.2) (by omega)
        have q0 : (w4.drew.setCells bL (k * 128) (u8s d)).cell? ⟨b, 0, none⟩ = some (.slice (some ⟨bL, 0, none⟩) n n) := by
          rw [World.cell?_setCells_out bL (u8s d) (k * 128) w4.drew ⟨b, 0, none⟩ (fun e _ => absurd e hbb)]; exact hc0
        have q1 : (w4.drew.setCells bL (k * 128) (u8s d)).cell? ⟨bw, 0, none⟩ = some (.int .i64 k) := by
          rw [World.cell?_setCells_out bL (u8s d) (k * 128) w4.drew ⟨bw, 0, none⟩ (fun e _ => absurd e hneb)]; exact hcw
        have q2 : (w4.drew.setCells bL (k * 128) (u8s d)).rangeAt bw 1 (u8s d) := World.rangeAt_setCells_apart (w := w4.drew) hcr _ _ _ (.inl hneb)
        clear hw4 hbw
        go_region_held3 (fun w' => w'.cell? ⟨b, 0, none⟩ = some (.slice (some ⟨bL, 0, none⟩) n n) ∧ w'.cell? ⟨bw, 0, none⟩ = some (.int .i64 k) ∧ w'.rangeAt bw 1 (u8s d)) (first | exact ⟨q0, q1, q2⟩ | go_keep_ranges) (first | (fail))
        clear q0 q1 q2 hc0 hcw hcr hth2
        go_wp2
        refine ⟨⟨i + 1, by omega, by go_num, HW4.out.trans' (Keep.setCells' _ _ _ _), ?_⟩, by simp [intOf]; omega⟩
        rw [HSN.out, settled_snoc, Nat.zero_add, List.length_take, Nat.min_eq_left (Nat.le_of_lt hlt), if_pos HKI.out]
        rw [setCells_over _ _ _ _ _ _ _ HBL4.out, over_las (sec_settled keep _ _ _ (fun e he => HENT.out e (List.mem_of_mem_take he)) HSEC.out) HD.out (by rw [HLEN.out]; exact hk)]
        exact setRow_heap _ _ _ _ _ _ HBL4.out
    · have hie : i = cache.length := by omega
      subst hie
      have hbw := hset.1.at HB.out hbb
      have hSw := hset.1.at HS.out hSL
      have k1 := cell_at hbw 1 rfl
      have k2 := cell_at hbw 2 rfl
      have f1 := free_at hbw 1
      have hclr := fun ty => run_clear_seen (wr.setCell ⟨b, 1, none⟩ (.slice none 0 0)) bS es ck ty ((Below.heap_setCell wr ⟨b, 1, none⟩ _ bS (fun e => hSb e)).trans hSw)
      have HSET := Lib.hid hset
      clear hset hbw hSw hbC hbb hcb hlt hi h0 h1 h2
      go_wp2
      go_end0
      refine ⟨_, rfl, rfl, wr, ?_, rfl⟩
      have := HSET.out
      rwa [List.take_length] at this

set_option maxHeartbeats 400000 in
theorem settle_nil_86 (w : World) (b bL bS n : Nat) (bk : Nat) (las : List (List Int)) (keep : Nat → Bool) (failed : Bool) (es : Array MapEntry) (ck : Nat)
    (hb : w.heap[b]? = some (.cells #[.slice (some ⟨bL, 0, none⟩) n n, .slice none 0 0, .map (some bS), .bool failed] 100 (0, 0)))
    (hbL : w.heap[bL]? = some (.cells (lasCells las).toArray 102 (0, 0))) (hbS : w.heap[bS]? = some (.map es ck)) (hSb : bS ≠ b) :
    Calls Try.prog 84 #[.pointer (some ⟨b, 0, none⟩), .func (.func 86) #[] #[.pointer (some ⟨bk, 0, none⟩)]] w (Gives fun v w' => v = .tuple #[] ∧ SettleEnd w b bL bS ck (settled keep 0 [] las) w') := by
  have k1 := cell_at hb 1 rfl
  have k2 := cell_at hb 2 rfl
  have f1 := free_at hb 1
  have hclr := fun ty => run_clear_seen (w.setCell ⟨b, 1, none⟩ (.slice none 0 0)) bS es ck ty ((Below.heap_setCell w ⟨b, 1, none⟩ _ bS (fun e => hSb e)).trans hbS)
  have HBL := Lib.hid hbL
  clear hb hbL hbS hSb
  go_enter Try.func84, Try.ntmps84
  go_wp2_with fail
  refine wp_loop_rounds 1 ?_
  rw [rounds_succ]
  go_wp2
  go_end0
  exact ⟨_, rfl, rfl, w, ⟨Keep.refl _ _, HBL.out⟩, rfl⟩

end Go.Proofs.Ytghnbbpoaeheaaa
