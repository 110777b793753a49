/- The disk's functions, walked: Read. -/
import Derived.Test.YtghnbbpoaeheaaaDisk1
namespace Go.Proofs.Ytghnbbpoaeheaaa
open Go.RowKit

/-- What a read gives: the bytes in a row of their own, and the error; no block has turned. -/
def ReadPost (w : World) (D : Dk) (at_ : Int) (v : Value) (w' : World) : Prop :=
  ∃ s, v = .tuple #[s, .int .u16 (D.code at_)] ∧ OwnB w' w.heap.size s (D.read at_) ∧ Keep NoF w w'

theorem DiskAt.entry {w : World} {b : Nat} {D : Dk} {F : Nat → Prop} (h : DiskAt w b D F) {csl : Value} (h1 : w.cell? ⟨b, 1, none⟩ = some csl) {j k : Nat} {d : List Int} (hj : D.cache[j]? = some (k, d)) :
    ∃ bC cap, csl = .slice (some ⟨bC, 0, none⟩) D.cache.length cap ∧ w.cell? ⟨bC, j * 129, none⟩ = some (.int .i64 k) ∧ w.rangeAt bC (j * 129 + 1) (u8s d) ∧ w.rangeAt bC (j * 129) (entCells (k, d)) := by
  obtain ⟨bL, bS, csl', es, ck, hb, h2, _, _, h5, _, ok⟩ := h
  have := cell_at hb 1 rfl
  rw [this] at h1
  obtain rfl : csl' = csl := by simpa using h1
  obtain ⟨hl, h5⟩ := h5
  have hjl : j < D.cache.length := (List.getElem?_eq_some_iff.1 hj).1
  rcases h5 with ⟨_, h0⟩ | ⟨g, cap, cur, hv, _, hh, hc, hm, hs, ht⟩
  · omega
  have hent : ∀ e ∈ D.cache, (entCells e).length = 129 := fun e he => by simp [entCells, (ok.ent e he).2]
  have hd : d.length = 128 := (ok.ent _ (List.mem_of_getElem? hj)).2
  have hrow : ((cur.toList.drop (j * 129)).take 129) = entCells (k, d) := by
    have h := row_flatMap entCells 129 D.cache j (k, d) hent hj (cur.toList.drop (D.cache.length * 129))
    rw [← h]
    congr 2
    unfold cacheCells at ht
    rw [← ht, List.take_append_drop]
  have hr : w.rangeAt g (j * 129) (entCells (k, d)) := range_at hh _ _ (by rw [show (entCells (k, d)).length = 129 from hent _ (List.mem_of_getElem? hj)]; exact hrow)
  refine ⟨g, cap, hv, hr 0 _ rfl, fun i v hv => ?_, hr⟩
  have := hr (i + 1) v (by rw [entCells, List.getElem?_cons_succ]; exact hv)
  rw [show j * 129 + 1 + i = j * 129 + (i + 1) by omega]; exact this

set_option maxHeartbeats 400000 in
theorem read_bad {w : World} {b : Nat} {D : Dk} {F : Nat → Prop} (h : DiskAt w b D F) (at_ : Int) (hc : ¬ D.code at_ = 0) :
    Calls Try.prog 36 #[.pointer (some ⟨b, 0, none⟩), .int .i64 at_] w (Gives (ReadPost w D at_)) := by
  have hm := Lib.hid (may_any h at_)
  have hr : D.read at_ = [] := by unfold Dk.read; rw [if_neg hc]
  have hP : ReadPost w D at_ (.tuple #[.slice none 0 0, .int .u16 (D.code at_)]) w := ⟨_, rfl, by rw [hr]; exact World.ownsRow_nil _ _ _ _, Keep.refl _ _⟩
  have hp := Lib.hid hP
  generalize hcc : D.code at_ = c at *
  have hcb : (c != 0) = true := by simpa using hc
  clear h hc hcc hr hP
  go_enter Try.func36, Try.ntmps36
  go_wp2_with ((go_at_call 82; refine hm.out.mono ?_; rintro e w' ⟨rfl, rfl⟩))
  go_ret2
  exact ⟨_, rfl, hp.out⟩

theorem zv {t : TypeId} (h : ((Try.prog.info? t).bind (·.zero)).isSome = true) (w : World) : ∃ z, (zeroValue t).run Try.prog w = .ok z w ∧ z.cells = Zof t := by
  unfold Zof
  cases hi : Try.prog.info? t with
  | none => rw [hi] at h; cases h
  | some i =>
    rw [hi] at h
    cases hz : i.zero with
    | none => simp [hz] at h
    | some z => exact ⟨z, by simp [zeroValue, typeInfo, hi, hz], by simp [hz]⟩
theorem zv102 (w : World) : ∃ z, (zeroValue 102).run Try.prog w = .ok z w ∧ z.cells = Zof 102 := zv (by kernel_rfl) w
theorem zv142 (w : World) : ∃ z, (zeroValue 142).run Try.prog w = .ok z w ∧ z.cells = Zof 142 := zv (by kernel_rfl) w
theorem OwnB.mono {w : World} {B B' : Nat} {v : Value} {l : List Int} (h : OwnB w B v l) (hB : B' ≤ B) : OwnB w B' v l := by
  obtain ⟨h1, h2⟩ := h
  refine ⟨h1, ?_⟩
  rcases h2 with h2 | ⟨g, cap, cur, hv, hg, r⟩
  · exact .inl h2
  · exact .inr ⟨g, cap, cur, hv, Nat.le_trans hB hg, r⟩
theorem aggOk (l : List Int) : (u8s l).toArray.all (·.oneCell') = true := all_oneCell_toArray (u8s_one l)

set_option maxHeartbeats 1000000 in
theorem read_miss (w : World) (b k n bL bS : Nat) (xs : List Int) (hm : Hid (Calls Try.prog 82 #[.pointer (some ⟨b, 0, none⟩), .int .i64 k] w fun e w' => e = .returned (.int .u16 0) ∧ w = w'))
    (h0 : w.cell? ⟨b, 0, none⟩ = some (.slice (some ⟨bL, 0, none⟩) n n)) (h2 : w.cell? ⟨b, 2, none⟩ = some (.map (some bS)))
    (hk : k < n) (hxs : xs.length = 128) (hx : w.rangeAt bL (k * 128) (u8s xs))
    (hlook : (Instr.lookup 98 (.map (some bS)) (.int .i64 k) true).run Try.prog (w.alloc (.cells (u8s xs).toArray 102)) = .ok (.tuple #[.int .i64 0, .bool false]) (w.alloc (.cells (u8s xs).toArray 102)))
    (hn : n ≤ 8192) :
    Calls Try.prog 36 #[.pointer (some ⟨b, 0, none⟩), .int .i64 k] w (Gives fun v w' => ∃ s, v = .tuple #[s, .int .u16 0] ∧ OwnB w' w.heap.size s xs ∧ Keep NoF w w') := by
  obtain ⟨z, hz, hzZ⟩ := zv102 w
  have HZ := Lib.hid hz
  have HZZ := Lib.hid hzZ
  have HX := Lib.hid hx
  have HXS := Lib.hid hxs
  clear hz hzZ hx hxs
  have HI := Lib.hid (show (Try.prog.info? 102).map (·.size) = some (u8s xs).length by rw [size102, length_u8s, HXS.out])
  have HI2 := Lib.hid (show (Try.prog.info? 102).map (·.size) = some (u8s xs).toArray.size by rw [size102, List.size_toArray, length_u8s, HXS.out])
  have HZ2 := Lib.hid (show (Zof 102).size = (u8s xs).toArray.size by rw [zofs102, List.size_toArray, length_u8s, HXS.out])
  go_enter Try.func36, Try.ntmps36
  have hbz : b < w.heap.size := World.block_lt_of_cell? w _ h0
  have HR : Hid ((w.alloc (.cells (u8s xs).toArray 102)).rangeAt w.heap.size 0 (u8s xs)) := range_at (heap_alloc_new w _) 0 _ (by rw [List.drop_zero, List.toList_toArray]; exact List.take_length)
  have HC := Lib.hid (clone_any w.heap.size 0 128 xs (w.alloc (.cells (u8s xs).toArray 102)) (by rw [HXS.out]; decide) (by rw [HXS.out]; decide) HR.out)
  rw [HXS.out] at HC
  go_wp2_with (first | (go_at_call 82; refine hm.out.mono ?_; rintro e w' ⟨rfl, rfl⟩) | ((with_reducible refine wpList_load_mid rfl 102 _ rfl bL (k*128) ?_ (u8s xs) _ HX.out Try.underlying102 rfl HI.out ?_); (next => rfl)) | (with_reducible refine wpList_alloc_Z rfl 102 rfl z (Zof 102) HZ.out HZZ.out ?_) | ((with_reducible refine wpList_store_new rfl 102 _ _ rfl (Zof 102) (u8s xs).toArray 102 ?_ ?_ HI2.out HZ2.out (aggOk xs) ?_); (next => rfl); (next => rfl)) | (go_at_call 83; go_must (refine HC.out.mono ?_); rintro e w' ⟨v, rfl, hown, hkeep⟩))
  go_ret2
  exact ⟨_, rfl, _, rfl, hown.mono (by simp), (Keep.alloc _ _ _).trans' hkeep⟩
set_option maxHeartbeats 1000000 in
theorem read_hit (w : World) (b k n bL bS bC j len cap : Nat) (xs ys : List Int) (hm : Hid (Calls Try.prog 82 #[.pointer (some ⟨b, 0, none⟩), .int .i64 k] w fun e w' => e = .returned (.int .u16 0) ∧ w = w'))
    (h0 : w.cell? ⟨b, 0, none⟩ = some (.slice (some ⟨bL, 0, none⟩) n n)) (h1 : w.cell? ⟨b, 1, none⟩ = some (.slice (some ⟨bC, 0, none⟩) len cap)) (h2 : w.cell? ⟨b, 2, none⟩ = some (.map (some bS)))
    (hk : k < n) (hj : j < len) (hxs : xs.length = 128) (hys : ys.length = 128) (hx : w.rangeAt bL (k * 128) (u8s xs)) (hy : w.rangeAt bC (j * 129 + 1) (u8s ys))
    (hlook : (Instr.lookup 98 (.map (some bS)) (.int .i64 k) true).run Try.prog (w.alloc (.cells (u8s xs).toArray 102)) = .ok (.tuple #[.int .i64 j, .bool true]) (w.alloc (.cells (u8s xs).toArray 102)))
    (hn : n ≤ 8192) :
    Calls Try.prog 36 #[.pointer (some ⟨b, 0, none⟩), .int .i64 k] w (Gives fun v w' => ∃ s, v = .tuple #[s, .int .u16 0] ∧ OwnB w' w.heap.size s ys ∧ Keep NoF w w') := by
  obtain ⟨z, hz, hzZ⟩ := zv102 w
  have HZ := Lib.hid hz
  have HZZ := Lib.hid hzZ
  have HX := Lib.hid hx
  have HY := Lib.hid hy
  have HXS := Lib.hid hxs
  have HYS := Lib.hid hys
  clear hz hzZ hx hy hxs hys
  have HI := Lib.hid (show (Try.prog.info? 102).map (·.size) = some (u8s xs).length by rw [size102, length_u8s, HXS.out])
  have HI2 := Lib.hid (show (Try.prog.info? 102).map (·.size) = some (u8s xs).toArray.size by rw [size102, List.size_toArray, length_u8s, HXS.out])
  have HZ2 := Lib.hid (show (Zof 102).size = (u8s xs).toArray.size by rw [zofs102, List.size_toArray, length_u8s, HXS.out])
  go_enter Try.func36, Try.ntmps36
  have hbz : b < w.heap.size := World.block_lt_of_cell? w _ h0
  have HJ := Lib.hid (show (Try.prog.info? 102).map (·.size) = some (u8s ys).length by rw [size102, length_u8s, HYS.out])
  have HJ2 := Lib.hid (show (Try.prog.info? 102).map (·.size) = some (u8s ys).toArray.size by rw [size102, List.size_toArray, length_u8s, HYS.out])
  have HZ3 := Lib.hid (show (u8s xs).toArray.size = (u8s ys).toArray.size by rw [List.size_toArray, List.size_toArray, length_u8s, length_u8s, HYS.out, HXS.out])
  have HYA := Lib.hid (World.rangeAt_alloc HY.out (.cells (u8s xs).toArray 102))
  have HB := Lib.hid (show (Obj.cells (u8s xs).toArray 102) = (Obj.cells (u8s xs).toArray 102) from rfl)
  have HR : Hid ((w.alloc (.cells (u8s ys).toArray 102)).rangeAt w.heap.size 0 (u8s ys)) := range_at (heap_alloc_new w _) 0 _ (by rw [List.drop_zero, List.toList_toArray]; exact List.take_length)
  have HC := Lib.hid (clone_any w.heap.size 0 128 ys (w.alloc (.cells (u8s ys).toArray 102)) (by rw [HYS.out]; decide) (by rw [HYS.out]; decide) HR.out)
  rw [HYS.out] at HC
  go_wp2_with (first | (go_at_call 82; refine hm.out.mono ?_; rintro e w' ⟨rfl, rfl⟩) | ((with_reducible refine wpList_load_mid rfl 102 _ rfl bL (k*128) ?_ (u8s xs) _ HX.out Try.underlying102 rfl HI.out ?_); (next => rfl)) | (with_reducible refine wpList_alloc_Z rfl 102 rfl z (Zof 102) HZ.out HZZ.out ?_) | ((with_reducible refine wpList_store_new rfl 102 _ _ rfl (Zof 102) (u8s xs).toArray 102 ?_ ?_ HI2.out HZ2.out (aggOk xs) ?_); (next => rfl); (next => rfl)) | ((with_reducible refine wpList_load_mid rfl 102 _ rfl bC (j*129+1) ?_ (u8s ys) _ HYA.out Try.underlying102 rfl HJ.out ?_); (next => rfl)) | ((with_reducible refine wpList_store_new rfl 102 _ _ rfl (u8s xs).toArray (u8s ys).toArray 102 ?_ ?_ HJ2.out HZ3.out (aggOk ys) ?_); (next => rfl); (next => rfl)) | (go_at_call 83; go_must (refine HC.out.mono ?_); rintro e w' ⟨v, rfl, hown, hkeep⟩))
  go_ret2
  exact ⟨_, rfl, _, rfl, hown.mono (by simp), (Keep.alloc _ _ _).trans' hkeep⟩

theorem read_any {w : World} {b : Nat} {D : Dk} {F : Nat → Prop} (h : DiskAt w b D F) (at_ : Int) :
    Calls Try.prog 36 #[.pointer (some ⟨b, 0, none⟩), .int .i64 at_] w (Gives (ReadPost w D at_)) := by
  by_cases hc : D.code at_ = 0
  case neg => exact read_bad h at_ hc
  have hm := Lib.hid (may_any h at_)
  rw [hc] at hm
  obtain ⟨hf, hk0, hk1⟩ := Dk.code_zero hc
  obtain ⟨k, rfl⟩ := Int.eq_ofNat_of_zero_le hk0
  have hk' : k < D.las.length := by omega
  have ok := h.ok
  obtain ⟨bL, bS, csl, h0, h1, h2, h3⟩ := h.head
  obtain ⟨s, hs⟩ : ∃ s, D.las[k]? = some s := ⟨_, List.getElem?_eq_getElem hk'⟩
  have hs128 : s.length = 128 := ok.sec s (List.mem_of_getElem? hs)
  have hrange := h.sector h0 hs
  have hget : D.read k = (cached D.cache k).getD s := by
    unfold Dk.read Dk.get
    rw [if_pos hc, Int.toNat_natCast, List.getD_eq_getElem?_getD, hs, Option.getD_some]
  obtain ⟨bL', bS', csl', es, ck, hb, hbL, hbS, ⟨l, hl, hseen⟩, _⟩ := id h
  obtain rfl : bS' = bS := by have := cell_at hb 2 rfl; rw [this] at h2; simpa using h2
  have hlook := run_lookup_seen (w.alloc (.cells (u8s s).toArray 102)) bS' k es ck ((Below.heap_alloc w _ bS' (lt_of_heap hbS)).trans hbS) l hl
  have hsk := hseen k
  cases hp : l.find? (fun p => p.1 == k) with
  | none =>
    rw [hp] at hsk hlook
    refine (read_miss w b k _ bL bS' s hm h0 h2 hk' hs128 hrange hlook ok.le).mono fun e w' hg => ?_
    obtain ⟨v, rfl, q, rfl, r1, r2⟩ := hg
    exact ⟨_, rfl, q, by rw [hc], by rw [hget, hsk]; exact r1, r2⟩
  | some p =>
    rw [hp] at hsk hlook
    obtain ⟨d, hd, hcd⟩ := hsk
    obtain ⟨bC, cap, rfl, _, hr, _⟩ := h.entry h1 hd
    refine (read_hit w b k _ bL bS' bC p.2 _ cap s d hm h0 h1 h2 hk' (List.getElem?_eq_some_iff.1 hd).1 hs128 (ok.ent _ (List.mem_of_getElem? hd)).2 hrange hr hlook ok.le).mono fun e w' hg => ?_
    obtain ⟨v, rfl, q, rfl, r1, r2⟩ := hg
    exact ⟨_, rfl, q, by rw [hc], by rw [hget, hcd]; exact r1, r2⟩
end Go.Proofs.Ytghnbbpoaeheaaa
