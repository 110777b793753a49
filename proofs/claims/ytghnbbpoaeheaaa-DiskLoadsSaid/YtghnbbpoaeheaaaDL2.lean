/- The disk's functions, walked: Read. -/
import Derived.Test.YtghnbbpoaeheaaaDL1
import Derived.Deep.RegionLaw
import Derived.Deep.AppendLies
namespace Go.Proofs.Ytghnbbpoaeheaaa
open Go.RowKit

/-- What a read gives: the bytes in a row of their own, and the error; no block has turned. -/
def ReadPost (w : World) (D : Dk) (at_ : Int) (v : Value) (w' : World) : Prop :=
  ∃ s, v = .tuple #[s, .int .u16 (D.code at_)] ∧ OwnB w' w.heap.size s (D.read at_) ∧ Keep NoF w w'

theorem DiskAt.entry {w : World} {b : Nat} {D : Dk} {F : Nat → Prop} (h : DiskAt w b D F) {csl : Value} (h1 : w.cell? ⟨b, 1, none⟩ = some csl) {j k : Nat} {d : List Int} (hj : D.cache[j]? = some (k, d)) :
    ∃ bC cap, csl = .slice (some ⟨bC, 0, none⟩) D.cache.length cap ∧ w.cell? ⟨bC, j * 129, none⟩ = some (.int .i64 k) ∧ w.rangeAt bC (j * 129 + 1) (u8s d) ∧ w.rangeAt bC (j * 129) (entCells (k, d)) := by
  obtain ⟨bL, bS, csl', es, ck, hb, h2, _, _, h5, _, ok⟩ := h
  have := cell_at hb 1 rfl
  rw [this] at h1
  obtain rfl : csl' = csl := by simpa using h1
  obtain ⟨hl, h5⟩ := h5
  have hjl : j < D.cache.length := (List.getElem?_eq_some_iff.1 hj).1
  rcases h5 with ⟨_, h0⟩ | ⟨g, cap, cur, hv, _, hh, hc, hm, hs, ht⟩
  · omega
  have hent : ∀ e ∈ D.cache, (entCells e).length = 129 := fun e he => by simp [entCells, (ok.ent e he).2]
  have hd : d.length = 128 := (ok.ent _ (List.mem_of_getElem? hj)).2
  have hrow : ((cur.toList.drop (j * 129)).take 129) = entCells (k, d) := by
    have h := row_flatMap entCells 129 D.cache j (k, d) hent hj (cur.toList.drop (D.cache.length * 129))
    rw [← h]
    congr 2
    unfold cacheCells at ht
    rw [← ht, List.take_append_drop]
  have hr : w.rangeAt g (j * 129) (entCells (k, d)) := range_at hh _ _ (by rw [show (entCells (k, d)).length = 129 from hent _ (List.mem_of_getElem? hj)]; exact hrow)
  refine ⟨g, cap, hv, hr 0 _ rfl, fun i v hv => ?_, hr⟩
  have := hr (i + 1) v (by rw [entCells, List.getElem?_cons_succ]; exact hv)
  rw [show j * 129 + 1 + i = j * 129 + (i + 1) by omega]; exact this

set_option maxHeartbeats 400000 in
theorem read_bad {w : World} {b : Nat} {D : Dk} {F : Nat → Prop} (h : DiskAt w b D F) (at_ : Int) (hc : ¬ D.code at_ = 0) :
    Calls Try.prog 36 #[.pointer (some ⟨b, 0, none⟩), .int .i64 at_] w (Gives (ReadPost w D at_)) := by
  have hm := Lib.hid (may_any h at_)
  have hr : D.read at_ = [] := by unfold Dk.read; rw [if_neg hc]
  have hP : ReadPost w D at_ (.tuple #[.slice none 0 0, .int .u16 (D.code at_)]) w := ⟨_, rfl, by rw [hr]; exact World.ownsRow_nil _ _ _ _, Keep.refl _ _⟩
  have hp := Lib.hid hP
  generalize hcc : D.code at_ = c at *
  have hcb : (c != 0) = true := by simpa using hc
  clear h hc hcc hr hP
  go_enter Try.func36, Try.ntmps36
  go_wp2_with ((go_at_call 82; refine hm.out.mono ?_; rintro e w' ⟨rfl, rfl⟩))
  go_ret2
  exact ⟨_, rfl, hp.out⟩

theorem zv {t : TypeId} (h : ((Try.prog.info? t).bind (·.zero)).isSome = true) (w : World) : ∃ z, (zeroValue t).run Try.prog w = .ok z w ∧ z.cells = Zof t := by
  unfold Zof
  cases hi : Try.prog.info? t with
  | none => rw [hi] at h; cases h
  | some i =>
    rw [hi] at h
    cases hz : i.zero with
    | none => simp [hz] at h
    | some z => exact ⟨z, by simp [zeroValue, typeInfo, hi, hz], by simp [hz]⟩
theorem zv102 (w : World) : ∃ z, (zeroValue 102).run Try.prog w = .ok z w ∧ z.cells = Zof 102 := zv (by kernel_rfl) w
theorem zv142 (w : World) : ∃ z, (zeroValue 142).run Try.prog w = .ok z w ∧ z.cells = Zof 142 := zv (by kernel_rfl) w
theorem OwnB.mono {w : World} {B B' : Nat} {v : Value} {l : List Int} (h : OwnB w B v l) (hB : B' ≤ B) : OwnB w B' v l := by
  obtain ⟨h1, h2⟩ := h
  refine ⟨h1, ?_⟩
  rcases h2 with h2 | ⟨g, cap, cur, hv, hg, r⟩
  · exact .inl h2
  · exact .inr ⟨g, cap, cur, hv, Nat.le_trans hB hg, r⟩
theorem aggOk (l : List Int) : (u8s l).toArray.all (·.oneCell') = true := all_oneCell_toArray (u8s_one l)

set_option maxHeartbeats 1000000 in
theorem read_miss (w : World) (b k n bL bS : Nat) (xs : List Int) (hm : Hid (Calls Try.prog 82 #[.pointer (some ⟨b, 0, none⟩), .int .i64 k] w fun e w' => e = .returned (.int .u16 0) ∧ w = w'))
    (h0 : w.cell? ⟨b, 0, none⟩ = some (.slice (some ⟨bL, 0, none⟩) n n)) (h2 : w.cell? ⟨b, 2, none⟩ = some (.map (some bS)))
    (hk : k < n) (hxs : xs.length = 128) (hx : w.rangeAt bL (k * 128) (u8s xs))
    (hlook : (Instr.lookup 98 (.map (some bS)) (.int .i64 k) true).run Try.prog (w.alloc (.cells (u8s xs).toArray 102)) = .ok (.tuple #[.int .i64 0, .bool false]) (w.alloc (.cells (u8s xs).toArray 102)))
    (hn : n ≤ 8192) :
    Calls Try.prog 36 #[.pointer (some ⟨b, 0, none⟩), .int .i64 k] w (Gives fun v w' => ∃ s, v = .tuple #[s, .int .u16 0] ∧ OwnB w' w.heap.size s xs ∧ Keep NoF w w') := by
  obtain ⟨z, hz, hzZ⟩ := zv102 w
  have HZ := Lib.hid hz
  have HZZ := Lib.hid hzZ
  have HX := Lib.hid hx
  have HXS := Lib.hid hxs
  clear hz hzZ hx hxs
  have HI := Lib.hid (show (Try.prog.info? 102).map (·.size) = some (u8s xs).length by rw [size102, length_u8s, HXS.out])
  have HI2 := Lib.hid (show (Try.prog.info? 102).map (·.size) = some (u8s xs).toArray.size by rw [size102, List.size_toArray, length_u8s, HXS.out])
  have HZ2 := Lib.hid (show (Zof 102).size = (u8s xs).toArray.size by rw [zofs102, List.size_toArray, length_u8s, HXS.out])
  go_enter Try.func36, Try.ntmps36
  have hbz : b < w.heap.size := World.block_lt_of_cell? w _ h0
  have HR : Hid ((w.alloc (.cells (u8s xs).toArray 102)).rangeAt w.heap.size 0 (u8s xs)) := range_at (heap_alloc_new w _) 0 _ (by rw [List.drop_zero, List.toList_toArray]; exact List.take_length)
  have HC := Lib.hid (clone_any w.heap.size 0 128 xs (w.alloc (.cells (u8s xs).toArray 102)) (by rw [HXS.out]; decide) (by rw [HXS.out]; decide) HR.out)
  rw [HXS.out] at HC
  go_wp2_with (first | (go_at_call 82; refine hm.out.mono ?_; rintro e w' ⟨rfl, rfl⟩) | ((with_reducible refine wpList_load_mid rfl 102 _ rfl bL (k*128) ?_ (u8s xs) _ HX.out Try.underlying102 rfl HI.out ?_); (next => rfl)) | (with_reducible refine wpList_alloc_Z rfl 102 rfl z (Zof 102) HZ.out HZZ.out ?_) | ((with_reducible refine wpList_store_new rfl 102 _ _ rfl (Zof 102) (u8s xs).toArray 102 ?_ ?_ HI2.out HZ2.out (aggOk xs) ?_); (next => rfl); (next => rfl)) | (go_at_call 83; go_must (refine HC.out.mono ?_); rintro e w' ⟨v, rfl, hown, hkeep⟩))
  go_ret2
  exact ⟨_, rfl, _, rfl, hown.mono (by simp), (Keep.alloc _ _ _).trans' hkeep⟩
set_option maxHeartbeats 1000000 in
theorem read_hit (w : World) (b k n bL bS bC j len cap : Nat) (xs ys : List Int) (hm : Hid (Calls Try.prog 82 #[.pointer (some ⟨b, 0, none⟩), .int .i64 k] w fun e w' => e = .returned (.int .u16 0) ∧ w = w'))
    (h0 : w.cell? ⟨b, 0, none⟩ = some (.slice (some ⟨bL, 0, none⟩) n n)) (h1 : w.cell? ⟨b, 1, none⟩ = some (.slice (some ⟨bC, 0, none⟩) len cap)) (h2 : w.cell? ⟨b, 2, none⟩ = some (.map (some bS)))
    (hk : k < n) (hj : j < len) (hxs : xs.length = 128) (hys : ys.length = 128) (hx : w.rangeAt bL (k * 128) (u8s xs)) (hy : w.rangeAt bC (j * 129 + 1) (u8s ys))
    (hlook : (Instr.lookup 98 (.map (some bS)) (.int .i64 k) true).run Try.prog (w.alloc (.cells (u8s xs).toArray 102)) = .ok (.tuple #[.int .i64 j, .bool true]) (w.alloc (.cells (u8s xs).toArray 102)))
    (hn : n ≤ 8192) :
    Calls Try.prog 36 #[.pointer (some ⟨b, 0, none⟩), .int .i64 k] w (Gives fun v w' => ∃ s, v = .tuple #[s, .int .u16 0] ∧ OwnB w' w.heap.size s ys ∧ Keep NoF w w') := by
  obtain ⟨z, hz, hzZ⟩ := zv102 w
  have HZ := Lib.hid hz
  have HZZ := Lib.hid hzZ
  have HX := Lib.hid hx
  have HY := Lib.hid hy
  have HXS := Lib.hid hxs
  have HYS := Lib.hid hys
  clear hz hzZ hx hy hxs hys
  have HI := Lib.hid (show (Try.prog.info? 102).map (·.size) = some (u8s xs).length by rw [size102, length_u8s, HXS.out])
  have HI2 := Lib.hid (show (Try.prog.info? 102).map (·.size) = some (u8s xs).toArray.size by rw [size102, List.size_toArray, length_u8s, HXS.out])
  have HZ2 := Lib.hid (show (Zof 102).size = (u8s xs).toArray.size by rw [zofs102, List.size_toArray, length_u8s, HXS.out])
  go_enter Try.func36, Try.ntmps36
  have hbz : b < w.heap.size := World.block_lt_of_cell? w _ h0
  have HJ := Lib.hid (show (Try.prog.info? 102).map (·.size) = some (u8s ys).length by rw [size102, length_u8s, HYS.out])
  have HJ2 := Lib.hid (show (Try.prog.info? 102).map (·.size) = some (u8s ys).toArray.size by rw [size102, List.size_toArray, length_u8s, HYS.out])
  have HZ3 := Lib.hid (show (u8s xs).toArray.size = (u8s ys).toArray.size by rw [List.size_toArray, List.size_toArray, length_u8s, length_u8s, HYS.out, HXS.out])
  have HYA := Lib.hid (World.rangeAt_alloc HY.out (.cells (u8s xs).toArray 102))
  have HB := Lib.hid (show (Obj.cells (u8s xs).toArray 102) = (Obj.cells (u8s xs).toArray 102) from rfl)
  have HR : Hid ((w.alloc (.cells (u8s ys).toArray 102)).rangeAt w.heap.size 0 (u8s ys)) := range_at (heap_alloc_new w _) 0 _ (by rw [List.drop_zero, List.toList_toArray]; exact List.take_length)
  have HC := Lib.hid (clone_any w.heap.size 0 128 ys (w.alloc (.cells (u8s ys).toArray 102)) (by rw [HYS.out]; decide) (by rw [HYS.out]; decide) HR.out)
  rw [HYS.out] at HC
  go_wp2_with (first | (go_at_call 82; refine hm.out.mono ?_; rintro e w' ⟨rfl, rfl⟩) | ((with_reducible refine wpList_load_mid rfl 102 _ rfl bL (k*128) ?_ (u8s xs) _ HX.out Try.underlying102 rfl HI.out ?_); (next => rfl)) | (with_reducible refine wpList_alloc_Z rfl 102 rfl z (Zof 102) HZ.out HZZ.out ?_) | ((with_reducible refine wpList_store_new rfl 102 _ _ rfl (Zof 102) (u8s xs).toArray 102 ?_ ?_ HI2.out HZ2.out (aggOk xs) ?_); (next => rfl); (next => rfl)) | ((with_reducible refine wpList_load_mid rfl 102 _ rfl bC (j*129+1) ?_ (u8s ys) _ HYA.out Try.underlying102 rfl HJ.out ?_); (next => rfl)) | ((with_reducible refine wpList_store_new rfl 102 _ _ rfl (u8s xs).toArray (u8s ys).toArray 102 ?_ ?_ HJ2.out HZ3.out (aggOk ys) ?_); (next => rfl); (next => rfl)) | (go_at_call 83; go_must (refine HC.out.mono ?_); rintro e w' ⟨v, rfl, hown, hkeep⟩))
  go_ret2
  exact ⟨_, rfl, _, rfl, hown.mono (by simp), (Keep.alloc _ _ _).trans' hkeep⟩

theorem read_any {w : World} {b : Nat} {D : Dk} {F : Nat → Prop} (h : DiskAt w b D F) (at_ : Int) :
    Calls Try.prog 36 #[.pointer (some ⟨b, 0, none⟩), .int .i64 at_] w (Gives (ReadPost w D at_)) := by
  by_cases hc : D.code at_ = 0
  case neg => exact read_bad h at_ hc
  have hm := Lib.hid (may_any h at_)
  rw [hc] at hm
  obtain ⟨hf, hk0, hk1⟩ := Dk.code_zero hc
  obtain ⟨k, rfl⟩ := Int.eq_ofNat_of_zero_le hk0
  have hk' : k < D.las.length := by omega
  have ok := h.ok
  obtain ⟨bL, bS, csl, h0, h1, h2, h3⟩ := h.head
  obtain ⟨s, hs⟩ : ∃ s, D.las[k]? = some s := ⟨_, List.getElem?_eq_getElem hk'⟩
  have hs128 : s.length = 128 := ok.sec s (List.mem_of_getElem? hs)
  have hrange := h.sector h0 hs
  have hget : D.read k = (cached D.cache k).getD s := by
    unfold Dk.read Dk.get
    rw [if_pos hc, Int.toNat_natCast, List.getD_eq_getElem?_getD, hs, Option.getD_some]
  obtain ⟨bL', bS', csl', es, ck, hb, hbL, hbS, ⟨l, hl, hseen⟩, _⟩ := id h
  obtain rfl : bS' = bS := by have := cell_at hb 2 rfl; rw [this] at h2; simpa using h2
  have hlook := run_lookup_seen (w.alloc (.cells (u8s s).toArray 102)) bS' k es ck ((Below.heap_alloc w _ bS' (lt_of_heap hbS)).trans hbS) l hl
  have hsk := hseen k
  cases hp : l.find? (fun p => p.1 == k) with
  | none =>
    rw [hp] at hsk hlook
    refine (read_miss w b k _ bL bS' s hm h0 h2 hk' hs128 hrange hlook ok.le).mono fun e w' hg => ?_
    obtain ⟨v, rfl, q, rfl, r1, r2⟩ := hg
    exact ⟨_, rfl, q, by rw [hc], by rw [hget, hsk]; exact r1, r2⟩
  | some p =>
    rw [hp] at hsk hlook
    obtain ⟨d, hd, hcd⟩ := hsk
    obtain ⟨bC, cap, rfl, _, hr, _⟩ := h.entry h1 hd
    refine (read_hit w b k _ bL bS' bC p.2 _ cap s d hm h0 h1 h2 hk' (List.getElem?_eq_some_iff.1 hd).1 hs128 (ok.ent _ (List.mem_of_getElem? hd)).2 hrange hr hlook ok.le).mono fun e w' hg => ?_
    obtain ⟨v, rfl, q, rfl, r1, r2⟩ := hg
    exact ⟨_, rfl, q, by rw [hc], by rw [hget, hcd]; exact r1, r2⟩
end Go.Proofs.Ytghnbbpoaeheaaa

/- Values put together: the entry of a cache, slices of one element. -/
namespace Go.Proofs.Ytghnbbpoaeheaaa
open Go.RowKit

theorem foldl_over : ∀ (vs : List Value) (cs : Array Value) (off k : Nat), (vs.zipIdx k).foldl (fun cs (x : Value × Nat) => cs.setIfInBounds (off + x.2) x.1) cs = over cs (off + k) vs
  | [], _, _, _ => rfl
  | v :: r, cs, off, k => by
    rw [List.zipIdx_cons, List.foldl_cons, over, foldl_over r _ off (k + 1)]
    rfl
theorem foldl_over' (vs : Array Value) (cs : Array Value) (off : Nat) : vs.zipIdx.foldl (fun cs (x : Value × Nat) => cs.setIfInBounds (off + x.2) x.1) cs = over cs off vs.toList := by
  rw [← Array.foldl_toList, Array.toList_zipIdx, foldl_over]
  rfl
theorem over_all (vs : List Value) (cs : Array Value) (h : vs.length = cs.size) : over cs 0 vs = vs.toArray := by
  apply Array.ext_getElem?
  intro i
  rw [get_over vs cs 0 i (by omega)]
  by_cases hi : i < vs.length
  · rw [if_pos ⟨Nat.zero_le _, by omega⟩]; simp
  · have h1 : cs.size ≤ i := by omega
    have h2 : vs.length ≤ i := by omega
    rw [if_neg (by omega), Array.getElem?_eq_none h1]; simp [h2]
theorem over_two (v : Value) (vs : List Value) (cs : Array Value) (h : vs.length + 1 = cs.size) : over (over cs 0 [v]) 1 vs = (v :: vs).toArray := by
  have e : over (over cs 0 [v]) 1 vs = over cs 0 (v :: vs) := rfl
  rw [e]
  exact over_all (v :: vs) cs (by simpa using h)

theorem under142 (w : World) : ∃ f0 f1, (underlying 142).run Try.prog w = .ok (.struct #[f0, f1]) w ∧ f0.offset = 0 ∧ f1.offset = 1 ∧ f0.type = 3 ∧ f1.type = 102 := ⟨{ name := "at", type := 3, offset := 0, byteOffset := 0, embedded := false, tag := "", pkgPath := "spindle/disk" }, { name := "data", type := 102, offset := 1, byteOffset := 8, embedded := false, tag := "", pkgPath := "spindle/disk" }, by kernel_rfl, rfl, rfl, rfl, rfl⟩
theorem sz3 (w : World) : (sizeOf 3).run Try.prog w = .ok 1 w := by kernel_rfl
theorem sz102 (w : World) : (sizeOf 102).run Try.prog w = .ok 128 w := by kernel_rfl
theorem sz142 (w : World) : (sizeOf 142).run Try.prog w = .ok 129 w := by kernel_rfl
theorem under97 (w : World) : (underlying 97).run Try.prog w = .ok (.slice 142) w := by kernel_rfl

/-- 'write{at: k, data: x}'. -/
theorem run_build142 (k : Int) (x : Array Value) (hx : x.size = 128) (w : World) : (Instr.build 142 #[(0, .int .i64 k), (1, .agg x)]).run Try.prog w = .ok (.agg (.int .i64 k :: x.toList).toArray) w := by
  obtain ⟨z, hz, hZ⟩ := zv142 w
  obtain ⟨f0, f1, hu, o0, o1, t0, t1⟩ := under142 w
  unfold Instr.build
  simp only [Sem.run_bind, hz, Result.andThen_ok, hu, hZ]
  have hm : (Array.mapM (fun f : Field => do pure (f.offset, ← sizeOf f.type)) #[f0, f1] : Sem _).run Try.prog w = .ok #[(0, 1), (1, 128)] w := by
    simp [Sem.run_bind, o0, o1, t0, t1, sz3, sz102]
  rw [hm]
  have hf : Instr.fill (fun i => (#[(0, 1), (1, 128)] : Array (Nat × Nat))[i]?) (Zof 142) [(0, .int .i64 k), (1, .agg x)] = some (.int .i64 k :: x.toList).toArray := by
    have hs : (over (Zof 142) 0 [.int .i64 k]).size = 129 := by rw [size_over]; exact zofs142
    have h1 : Instr.fill (fun i => (#[(0, 1), (1, 128)] : Array (Nat × Nat))[i]?) (Zof 142) [(0, .int .i64 k), (1, .agg x)] =
        if (#[Value.int .i64 k] : Array Value).size ≠ 1 || 0 + (#[Value.int .i64 k] : Array Value).size > (Zof 142).size then none
        else if x.size ≠ 128 || 1 + x.size > ((#[Value.int .i64 k] : Array Value).zipIdx.foldl (fun cs (p : Value × Nat) => cs.setIfInBounds (0 + p.2) p.1) (Zof 142)).size then none
        else some (x.zipIdx.foldl (fun cs (p : Value × Nat) => cs.setIfInBounds (1 + p.2) p.1) ((#[Value.int .i64 k] : Array Value).zipIdx.foldl (fun cs (p : Value × Nat) => cs.setIfInBounds (0 + p.2) p.1) (Zof 142))) := rfl
    rw [h1, foldl_over', foldl_over', hs, zofs142, hx]
    exact congrArg some (over_two (.int .i64 k) x.toList (Zof 142) (by rw [zofs142]; simp [hx]))
  simp only [Result.andThen_ok]
  erw [hf]
  rfl
/-- '[]write{e}'. -/
theorem run_buildSlice97 (x : Array Value) (hx : x.size = 129) (w : World) : (Instr.buildSlice 97 1 #[(0, .agg x)]).run Try.prog w = .ok (.slice (some ⟨w.heap.size, 0, none⟩) 1 1) (w.alloc (.cells x 142)) := by
  obtain ⟨z, hz, hZ⟩ := zv142 w
  unfold Instr.buildSlice
  simp only [Sem.run_bind, under97, sz142, Result.andThen_ok]
  rw [if_neg (by decide)]
  simp only [Nat.one_mul]
  have h129 : ¬ (129 : Nat) = 0 := by decide
  simp only [h129, ↓reduceIte, Sem.run_bind, hz, Result.andThen_ok, Sem.run_pure, hZ]
  have hf : Instr.fill (fun i => some (i * 129, 129)) ((Array.range 129).map ((Zof 142)[· % (Zof 142).size]!)) [(0, .agg x)] = some x := by
    have h1 : Instr.fill (fun i => some (i * 129, 129)) ((Array.range 129).map ((Zof 142)[· % (Zof 142).size]!)) [(0, .agg x)] =
        if x.size ≠ 129 || 0 + x.size > ((Array.range 129).map ((Zof 142)[· % (Zof 142).size]!)).size then none
        else some (x.zipIdx.foldl (fun cs (p : Value × Nat) => cs.setIfInBounds (0 + p.2) p.1) ((Array.range 129).map ((Zof 142)[· % (Zof 142).size]!))) := rfl
    rw [h1, foldl_over', hx, Array.size_map, Array.size_range]
    have := over_all x.toList ((Array.range 129).map ((Zof 142)[· % (Zof 142).size]!)) (by simp [hx])
    rw [this]
    simp
  erw [hf]
  rfl
theorem under102 (w : World) : (underlying 102).run Try.prog w = .ok (.array 128 5) w := by kernel_rfl
theorem run_arrayAt102 (a : Option Addr) (n c : Nat) (hn : 128 ≤ n) (w : World) : (Instr.arrayAt 102 (.slice a n c)).run Try.prog w = .ok (.pointer a) w := by
  unfold Instr.arrayAt
  simp only [Sem.run_bind, under102, Result.andThen_ok]
  rw [if_neg (by omega)]
  rfl
end Go.Proofs.Ytghnbbpoaeheaaa

/- The disk's functions, walked: Write. -/
namespace Go.Proofs.Ytghnbbpoaeheaaa
open Go.RowKit

theorem exec_build142 {ρ : Operand → Value} {o : Oper} {x y : Operand} (ho : o.op = .build 142 #[(0, x), (1, y)]) (k : Int) (c : Array Value) (hx : ρ x = .int .i64 k) (hy : ρ y = .agg c) (hc : c.size = 128) (w : World) :
    (execOp ρ o).run Try.prog w = .ok (.value (.agg (.int .i64 k :: c.toList).toArray)) w := by
  have := run_build142 k c hc w
  simp only [execOp, ho]
  have e : (#[(0, x), (1, y)] : Array (Nat × Operand)).map (fun p => (p.1, ρ p.2)) = #[(0, .int .i64 k), (1, .agg c)] := by simp [hx, hy]
  show Sem.run _ (do pure (Next.value (← Instr.build 142 ((#[(0, x), (1, y)] : Array (Nat × Operand)).map (fun p => (p.1, ρ p.2)))))) w = _
  rw [e, Sem.run_bind, this]
  rfl
theorem wp_buildSlice97 {o : Oper} {a : Act} {w : World} {K : Act → World → Prop} {Q : Exit → Act → World → Prop} {x : Operand} (ho : o.op = .buildSlice 97 1 #[(0, x)]) (c : Array Value) (hx : a.eval x = .agg c) (hc : c.size = 129)
    (h : K (a.put o.dst (.slice (some ⟨w.heap.size, 0, none⟩) 1 1)) (w.alloc (.cells c 142))) : o.wp Try.prog a w K Q := by
  have := run_buildSlice97 c hc w
  unfold Oper.wp
  have e : (#[(0, x)] : Array (Nat × Operand)).map (fun p => (p.1, a.eval p.2)) = #[(0, .agg c)] := by simp [hx]
  have hr : (execOp a.eval o).run Try.prog w = .ok (.value (.slice (some ⟨w.heap.size, 0, none⟩) 1 1)) (w.alloc (.cells c 142)) := by
    simp only [execOp, ho]
    show Sem.run _ (do pure (Next.value (← Instr.buildSlice 97 1 ((#[(0, x)] : Array (Nat × Operand)).map (fun p => (p.1, a.eval p.2)))))) w = _
    rw [e, Sem.run_bind, this]
    rfl
  rw [hr]
  exact h

theorem step_of_wp {P : Program} {ops : Array Oper} {o : Oper} {a : Act} {w : World} {K : Act → World → Prop} {Q : Exit → Act → World → Prop} {E : Prop} (hgd : o.guard = none) (h : Oper.wp P o a w K Q) :
    if Region.wanted o (yielded ops a.tmps) = true then Oper.wp P o a w K Q else E := by
  rw [if_pos (by simp [Region.wanted, hgd])]; exact h

/-- What is known of the world behind the append and the store. -/
def WriteEnd (W2 : World) (b k cn cc : Nat) (ca : Option Addr) (olds : List Value) (xs : List Int) (w' : World) : Prop :=
  ∃ g cap w1, w1.ownsRow 0 142 129 (.slice (some ⟨g, 0, none⟩) (cn + 1) cap) (cn + 1) (olds ++ (.int .i64 k :: u8s xs)) ∧ (W2.drew.alloc (.cells (.int .i64 k :: u8s xs).toArray 142)).grownBy w1 (Value.slice ca cn cc).ownBlock ∧
    ((Value.slice ca cn cc).ownBlock = some g ∨ g = W2.heap.size + 1) ∧ g < w1.heap.size ∧ w' = w1.setCell ⟨b, 1, none⟩ (.slice (some ⟨g, 0, none⟩) (cn + 1) cap)

set_option maxRecDepth 100000 in
set_option maxHeartbeats 800000 in
theorem write_core (w W2 : World) (b k n bL bS dcap db do_ : Nat) (xs : List Int) (cn cc : Nat) (ca : Option Addr) (olds : List Value) (hm : Hid (Calls Try.prog 82 #[.pointer (some ⟨b, 0, none⟩), .int .i64 k] w fun e w' => e = .returned (.int .u16 0) ∧ w = w'))
    (h0 : w.cell? ⟨b, 0, none⟩ = some (.slice (some ⟨bL, 0, none⟩) n n)) (h1 : w.cell? ⟨b, 1, none⟩ = some (.slice ca cn cc)) (h2 : w.cell? ⟨b, 2, none⟩ = some (.map (some bS)))
    (hk : k < n) (hxl : xs.length = 128)
    (hrun : (Instr.mapUpdate 98 (.map (some bS)) (.int .i64 k) (.int .i64 cn)).run Try.prog w.drew = .ok () W2)
    (g1 : W2.cell? ⟨b, 1, none⟩ = some (.slice ca cn cc)) (gf1 : W2.frozen? ⟨b, 1, none⟩ = false) (gx : W2.rangeAt db do_ (u8s xs)) (hbz : b < W2.heap.size)
    (hown : W2.ownsRow 0 142 129 (.slice ca cn cc) cn olds) (hcn : cn ≤ 1000000) (hne : (Value.slice ca cn cc).ownBlock ≠ some b) :
    Calls Try.prog 37 #[.pointer (some ⟨b, 0, none⟩), .int .i64 k, .slice (some ⟨db, do_, none⟩) 128 dcap] w (Gives fun v w' => v = .int .u16 0 ∧ WriteEnd W2 b k cn cc ca olds xs w') := by
  have HI := Lib.hid (show (Try.prog.info? 102).map (·.size) = some (u8s xs).length by rw [size102, length_u8s, hxl])
  have HX128 := Lib.hid (show (u8s xs).toArray.size = 128 by simp [hxl])
  have hl129 : (.int .i64 k :: u8s xs).toArray.size = 129 := by simp [hxl]
  obtain ⟨i0, hi0, he⟩ := info_of i142
  simp only [Prod.mk.injEq] at he
  obtain ⟨hza, hz1, hz2⟩ := he
  obtain ⟨z0, hz0, hzc⟩ : ∃ z, i0.zero = some z ∧ z.cells = Zof 142 := by
    cases hz : i0.zero with
    | none => rw [hz] at hza; cases hza
    | some z => rw [hz] at hza; exact ⟨z, rfl, by simpa using hza⟩
  have hz3 := Lib.hid (show z0.cells.size = 129 by rw [hzc]; exact zofs142)
  have hi0 := Lib.hid hi0
  have hz0 := Lib.hid hz0
  have hz1 := Lib.hid hz1
  have hz2 := Lib.hid hz2
  have GX : Hid (W2.drew.rangeAt db do_ (u8s xs)) := gx
  have HOWN : Hid ((W2.drew.alloc (.cells (.int .i64 k :: u8s xs).toArray 142)).ownsRow 0 142 129 (.slice ca cn cc) cn olds) := World.ownsRow.alloc (w := W2.drew) hown _
  have HL : Hid ((Value.int .i64 k :: u8s xs).toArray.toList.length = 1 * 129) := by show _ = _; simp [hxl]
  have HN : Hid (∀ j u, ((Value.int .i64 k :: u8s xs).toArray.toList)[j]? = some u → (W2.drew.alloc (.cells (.int .i64 k :: u8s xs).toArray 142)).cell? ((⟨W2.heap.size, 0, none⟩ : Addr).add j) = some u) := World.news_of_block (heap_alloc_new W2.drew _)
  have H1 : Hid (∀ u ∈ ((Value.int .i64 k :: u8s xs).toArray.toList), u.oneCell' = true) := by
    intro u hu
    rcases List.mem_cons.1 (by simpa using hu) with rfl | hu
    · rfl
    · exact u8s_one xs u hu
  have HB : Hid (cn + 1 ≤ maxLen) := by show _ ≤ _; unfold maxLen; omega
  have HB2 : Hid ((cn + 1) * 136 ≤ 140737488355328) := by show _ ≤ _; omega
  have HC1 : Hid ((W2.drew.alloc (.cells (.int .i64 k :: u8s xs).toArray 142)).cell? ⟨b, 1, none⟩ = some (.slice ca cn cc)) := (World.cell?_of_block (w := W2.drew) (Below.heap_alloc W2.drew _ b hbz)).trans g1
  have HF1 : Hid ((W2.drew.alloc (.cells (.int .i64 k :: u8s xs).toArray 142)).frozen? ⟨b, 1, none⟩ = false) := (World.frozen?_of_block (w := W2.drew) (Below.heap_alloc W2.drew _ b hbz)).trans gf1
  have HBZ : Hid (b < (W2.drew.alloc (.cells (.int .i64 k :: u8s xs).toArray 142)).heap.size) := by show b < _; simp; omega
  have HNE : Hid (some b ≠ (Value.slice ca cn cc).ownBlock) := fun e => hne e.symm
  have harr := fun w => run_arrayAt102 (some ⟨db, do_, none⟩) 128 dcap (by decide) w
  have H129 := Lib.hid hl129
  clear gx hown gf1 hcn hne hza hzc hl129 hxl
  go_enter Try.func37, Try.ntmps37
  go_wp2_with (first | (go_at_call 82; refine hm.out.mono ?_; rintro e w' ⟨rfl, rfl⟩))
  go_region
  clear hrun h0 h1 h2 hm
  go_wp2
  refine wp_region_any (by kernel_rfl) ?_
  change wpAny _ _ _ _ _ _ _ (World.drew _)
  refine wpAny_take (i := 0) (v := .pointer (some ⟨b, 0, none⟩)) rfl (by kernel_rfl) (by kernel_rfl) (by kernel_rfl) (fun _ _ _ h => h) (Or.inl ⟨by rfl, fun w => by go_simp⟩) ?_
  try simp only [Act.put, List.getElem_toArray, List.getElem_cons_zero, List.getElem_cons_succ, List.setIfInBounds_toArray, List.set_cons_zero, List.set_cons_succ]
  refine wpAny_take (i := 1) (v := .pointer (some ⟨b, 0, none⟩)) rfl (by kernel_rfl) (by kernel_rfl) (by kernel_rfl) (fun _ _ _ h => h) (Or.inl ⟨by rfl, fun w => by go_simp⟩) ?_
  try simp only [Act.put, List.getElem_toArray, List.getElem_cons_zero, List.getElem_cons_succ, List.setIfInBounds_toArray, List.set_cons_zero, List.set_cons_succ]
  refine wpAny_take (i := 2) (v := .pointer (some ⟨b, 0, none⟩)) rfl (by kernel_rfl) (by kernel_rfl) (by kernel_rfl) (fun _ _ _ h => h) (Or.inl ⟨by rfl, fun w => by go_simp⟩) ?_
  try simp only [Act.put, List.getElem_toArray, List.getElem_cons_zero, List.getElem_cons_succ, List.setIfInBounds_toArray, List.set_cons_zero, List.set_cons_succ]
  refine wpAny_take (i := 3) (v := .pointer (some ⟨b, 1, none⟩)) rfl (by kernel_rfl) (by kernel_rfl) (by kernel_rfl) (fun _ _ _ h => h) (Or.inl ⟨by rfl, fun w => by go_simp⟩) ?_
  try simp only [Act.put, List.getElem_toArray, List.getElem_cons_zero, List.getElem_cons_succ, List.setIfInBounds_toArray, List.set_cons_zero, List.set_cons_succ]
  refine wpAny_take (i := 5) (v := .int .i64 k) rfl (by kernel_rfl) (by kernel_rfl) (by kernel_rfl) (fun _ _ _ h => h) (Or.inl ⟨by rfl, fun w => by go_simp⟩) ?_
  try simp only [Act.put, List.getElem_toArray, List.getElem_cons_zero, List.getElem_cons_succ, List.setIfInBounds_toArray, List.set_cons_zero, List.set_cons_succ]
  refine wpAny_take (i := 6) (v := .slice (some ⟨db, do_, none⟩) 128 dcap) rfl (by kernel_rfl) (by kernel_rfl) (by kernel_rfl) (fun _ _ _ h => h) (Or.inl ⟨by rfl, fun w => by go_simp⟩) ?_
  try simp only [Act.put, List.getElem_toArray, List.getElem_cons_zero, List.getElem_cons_succ, List.setIfInBounds_toArray, List.set_cons_zero, List.set_cons_succ]
  refine wpAny_take (i := 7) (v := .pointer (some ⟨db, do_, none⟩)) rfl (by kernel_rfl) (by kernel_rfl) (by kernel_rfl) (fun _ _ _ h => h) (Or.inl ⟨by rfl, fun w => by go_simp⟩) ?_
  try simp only [Act.put, List.getElem_toArray, List.getElem_cons_zero, List.getElem_cons_succ, List.setIfInBounds_toArray, List.set_cons_zero, List.set_cons_succ]
  refine wpAny_ready (rs := [4, 8]) (by kernel_rfl) (by simp) ?_
  refine AllReady.cons rfl (fun K hK => ?_) ?_
  · skip
    go_simp
    refine hK _ _ ?_
    clear hK K
    try simp only [Act.put, List.getElem_toArray, List.getElem_cons_zero, List.getElem_cons_succ, List.setIfInBounds_toArray, List.set_cons_zero, List.set_cons_succ]
    refine wpAny_ready (rs := [8]) (by kernel_rfl) (by simp) ?_
    refine AllReady.cons rfl (fun K hK => ?_) AllReady.nil
    refine step_of_wp (by rfl) ?_
    refine wp_load_mid 102 _ rfl db do_ rfl (u8s xs) _ GX.out Try.underlying102 rfl HI.out ?_
    refine hK _ _ ?_
    clear hK K
    try simp only [Act.put, List.getElem_toArray, List.getElem_cons_zero, List.getElem_cons_succ, List.setIfInBounds_toArray, List.set_cons_zero, List.set_cons_succ]
    refine wpAny_take (i := 9) (v := .agg (.int .i64 k :: u8s xs).toArray) rfl (by kernel_rfl) (by kernel_rfl) (by kernel_rfl) (fun _ _ _ h => h) (Or.inl ⟨by rfl, fun w => exec_build142 rfl k (u8s xs).toArray rfl rfl HX128.out w⟩) ?_
    try simp only [Act.put, List.getElem_toArray, List.getElem_cons_zero, List.getElem_cons_succ, List.setIfInBounds_toArray, List.set_cons_zero, List.set_cons_succ]
    refine wpAny_ready (rs := [10]) (by kernel_rfl) (by simp) ?_
    refine AllReady.cons rfl (fun K hK => ?_) AllReady.nil
    refine step_of_wp (by rfl) ?_
    refine wp_buildSlice97 rfl (.int .i64 k :: u8s xs).toArray rfl H129.out ?_
    refine hK _ _ ?_
    clear hK K
    try simp only [Act.put, List.getElem_toArray, List.getElem_cons_zero, List.getElem_cons_succ, List.setIfInBounds_toArray, List.set_cons_zero, List.set_cons_succ]
    refine wpAny_ready (rs := [11]) (by kernel_rfl) (by simp) ?_
    refine AllReady.cons rfl (fun K hK => ?_) AllReady.nil
    refine step_append_lies _ (by rfl) _ _ _ (by rfl) 0 142 i0 z0 129 136 Try.underlying97 hi0.out hz0.out hz1.out hz2.out hz3.out (by decide) (.slice ca cn cc) cn olds (by rfl) HOWN.out ⟨W2.heap.size, 0, none⟩ 1 1 (.int .i64 k :: u8s xs).toArray.toList (by rfl) HL.out HN.out H1.out (by decide) HB.out HB2.out (by simp) (W2.heap.size + 1) (by simp) ?_
    intro g cap w1 hown1 hgrow hat hlt
    refine hK _ _ ?_
    clear hK K
    try simp only [Act.put, List.getElem_toArray, List.getElem_cons_zero, List.getElem_cons_succ, List.setIfInBounds_toArray, List.set_cons_zero, List.set_cons_succ]
    have k1 : w1.cell? ⟨b, 1, none⟩ = some (.slice ca cn cc) := (World.cell?_of_block (hgrow.block b HBZ.out HNE.out)).trans HC1.out
    have kf : w1.frozen? ⟨b, 1, none⟩ = false := (World.frozen?_of_block (hgrow.block b HBZ.out HNE.out)).trans HF1.out
    refine wpAny_take (i := 12) (v := .pointer (some ⟨b, 0, none⟩)) rfl (by kernel_rfl) (by kernel_rfl) (by kernel_rfl) (fun _ _ _ h => h) (Or.inl ⟨by rfl, fun w => by go_simp⟩) ?_
    try simp only [Act.put, List.getElem_toArray, List.getElem_cons_zero, List.getElem_cons_succ, List.setIfInBounds_toArray, List.set_cons_zero, List.set_cons_succ]
    refine wpAny_take (i := 13) (v := .pointer (some ⟨b, 1, none⟩)) rfl (by kernel_rfl) (by kernel_rfl) (by kernel_rfl) (fun _ _ _ h => h) (Or.inl ⟨by rfl, fun w => by go_simp⟩) ?_
    try simp only [Act.put, List.getElem_toArray, List.getElem_cons_zero, List.getElem_cons_succ, List.setIfInBounds_toArray, List.set_cons_zero, List.set_cons_succ]
    refine wpAny_ready (rs := [14]) (by kernel_rfl) (by simp) ?_
    refine AllReady.cons rfl (fun K hK => ?_) AllReady.nil
    go_simp
    refine hK _ _ ?_
    clear hK K
    try simp only [Act.put, List.getElem_toArray, List.getElem_cons_zero, List.getElem_cons_succ, List.setIfInBounds_toArray, List.set_cons_zero, List.set_cons_succ]
    refine wpAny_done (by kernel_rfl) ?_ _
    go_wp2
    go_ret
    exact ⟨_, rfl, rfl, g, cap, w1, hown1, hgrow, hat, hlt, rfl⟩
  refine AllReady.cons (o := { dst := some 35, op := .load 102 (.tmp 34), type := 102, pos := "disk.go:84", after := #[{ on := 7, ground := .data }], guard := none }) rfl (fun K hK => ?_) AllReady.nil
  · skip
    refine step_of_wp (by rfl) ?_
    refine wp_load_mid 102 _ rfl db do_ rfl (u8s xs) _ GX.out Try.underlying102 rfl HI.out ?_
    refine hK _ _ ?_
    clear hK K
    try simp only [Act.put, List.getElem_toArray, List.getElem_cons_zero, List.getElem_cons_succ, List.setIfInBounds_toArray, List.set_cons_zero, List.set_cons_succ]
    refine wpAny_take (i := 9) (v := .agg (.int .i64 k :: u8s xs).toArray) rfl (by kernel_rfl) (by kernel_rfl) (by kernel_rfl) (fun _ _ _ h => h) (Or.inl ⟨by rfl, fun w => exec_build142 rfl k (u8s xs).toArray rfl rfl HX128.out w⟩) ?_
    try simp only [Act.put, List.getElem_toArray, List.getElem_cons_zero, List.getElem_cons_succ, List.setIfInBounds_toArray, List.set_cons_zero, List.set_cons_succ]
    refine wpAny_ready (rs := [4, 10]) (by kernel_rfl) (by simp) ?_
    refine AllReady.cons rfl (fun K hK => ?_) ?_
    · skip
      go_simp
      refine hK _ _ ?_
      clear hK K
      try simp only [Act.put, List.getElem_toArray, List.getElem_cons_zero, List.getElem_cons_succ, List.setIfInBounds_toArray, List.set_cons_zero, List.set_cons_succ]
      refine wpAny_ready (rs := [10]) (by kernel_rfl) (by simp) ?_
      refine AllReady.cons rfl (fun K hK => ?_) AllReady.nil
      refine step_of_wp (by rfl) ?_
      refine wp_buildSlice97 rfl (.int .i64 k :: u8s xs).toArray rfl H129.out ?_
      refine hK _ _ ?_
      clear hK K
      try simp only [Act.put, List.getElem_toArray, List.getElem_cons_zero, List.getElem_cons_succ, List.setIfInBounds_toArray, List.set_cons_zero, List.set_cons_succ]
      refine wpAny_ready (rs := [11]) (by kernel_rfl) (by simp) ?_
      refine AllReady.cons rfl (fun K hK => ?_) AllReady.nil
      refine step_append_lies _ (by rfl) _ _ _ (by rfl) 0 142 i0 z0 129 136 Try.underlying97 hi0.out hz0.out hz1.out hz2.out hz3.out (by decide) (.slice ca cn cc) cn olds (by rfl) HOWN.out ⟨W2.heap.size, 0, none⟩ 1 1 (.int .i64 k :: u8s xs).toArray.toList (by rfl) HL.out HN.out H1.out (by decide) HB.out HB2.out (by simp) (W2.heap.size + 1) (by simp) ?_
      intro g cap w1 hown1 hgrow hat hlt
      refine hK _ _ ?_
      clear hK K
      try simp only [Act.put, List.getElem_toArray, List.getElem_cons_zero, List.getElem_cons_succ, List.setIfInBounds_toArray, List.set_cons_zero, List.set_cons_succ]
      have k1 : w1.cell? ⟨b, 1, none⟩ = some (.slice ca cn cc) := (World.cell?_of_block (hgrow.block b HBZ.out HNE.out)).trans HC1.out
      have kf : w1.frozen? ⟨b, 1, none⟩ = false := (World.frozen?_of_block (hgrow.block b HBZ.out HNE.out)).trans HF1.out
      refine wpAny_take (i := 12) (v := .pointer (some ⟨b, 0, none⟩)) rfl (by kernel_rfl) (by kernel_rfl) (by kernel_rfl) (fun _ _ _ h => h) (Or.inl ⟨by rfl, fun w => by go_simp⟩) ?_
      try simp only [Act.put, List.getElem_toArray, List.getElem_cons_zero, List.getElem_cons_succ, List.setIfInBounds_toArray, List.set_cons_zero, List.set_cons_succ]
      refine wpAny_take (i := 13) (v := .pointer (some ⟨b, 1, none⟩)) rfl (by kernel_rfl) (by kernel_rfl) (by kernel_rfl) (fun _ _ _ h => h) (Or.inl ⟨by rfl, fun w => by go_simp⟩) ?_
      try simp only [Act.put, List.getElem_toArray, List.getElem_cons_zero, List.getElem_cons_succ, List.setIfInBounds_toArray, List.set_cons_zero, List.set_cons_succ]
      refine wpAny_ready (rs := [14]) (by kernel_rfl) (by simp) ?_
      refine AllReady.cons rfl (fun K hK => ?_) AllReady.nil
      go_simp
      refine hK _ _ ?_
      clear hK K
      try simp only [Act.put, List.getElem_toArray, List.getElem_cons_zero, List.getElem_cons_succ, List.setIfInBounds_toArray, List.set_cons_zero, List.set_cons_succ]
      refine wpAny_done (by kernel_rfl) ?_ _
      go_wp2
      go_ret
      exact ⟨_, rfl, rfl, g, cap, w1, hown1, hgrow, hat, hlt, rfl⟩
    refine AllReady.cons (o := { dst := some 37, op := .buildSlice 97 1 #[(0, .tmp 36)], type := 97, pos := "disk.go:84", after := #[{ on := 9, ground := .data }], guard := none }) rfl (fun K hK => ?_) AllReady.nil
    · skip
      refine step_of_wp (by rfl) ?_
      refine wp_buildSlice97 rfl (.int .i64 k :: u8s xs).toArray rfl H129.out ?_
      refine hK _ _ ?_
      clear hK K
      try simp only [Act.put, List.getElem_toArray, List.getElem_cons_zero, List.getElem_cons_succ, List.setIfInBounds_toArray, List.set_cons_zero, List.set_cons_succ]
      refine wpAny_ready (rs := [4]) (by kernel_rfl) (by simp) ?_
      refine AllReady.cons rfl (fun K hK => ?_) AllReady.nil
      go_simp
      refine hK _ _ ?_
      clear hK K
      try simp only [Act.put, List.getElem_toArray, List.getElem_cons_zero, List.getElem_cons_succ, List.setIfInBounds_toArray, List.set_cons_zero, List.set_cons_succ]
      refine wpAny_ready (rs := [11]) (by kernel_rfl) (by simp) ?_
      refine AllReady.cons rfl (fun K hK => ?_) AllReady.nil
      refine step_append_lies _ (by rfl) _ _ _ (by rfl) 0 142 i0 z0 129 136 Try.underlying97 hi0.out hz0.out hz1.out hz2.out hz3.out (by decide) (.slice ca cn cc) cn olds (by rfl) HOWN.out ⟨W2.heap.size, 0, none⟩ 1 1 (.int .i64 k :: u8s xs).toArray.toList (by rfl) HL.out HN.out H1.out (by decide) HB.out HB2.out (by simp) (W2.heap.size + 1) (by simp) ?_
      intro g cap w1 hown1 hgrow hat hlt
      refine hK _ _ ?_
      clear hK K
      try simp only [Act.put, List.getElem_toArray, List.getElem_cons_zero, List.getElem_cons_succ, List.setIfInBounds_toArray, List.set_cons_zero, List.set_cons_succ]
      have k1 : w1.cell? ⟨b, 1, none⟩ = some (.slice ca cn cc) := (World.cell?_of_block (hgrow.block b HBZ.out HNE.out)).trans HC1.out
      have kf : w1.frozen? ⟨b, 1, none⟩ = false := (World.frozen?_of_block (hgrow.block b HBZ.out HNE.out)).trans HF1.out
      refine wpAny_take (i := 12) (v := .pointer (some ⟨b, 0, none⟩)) rfl (by kernel_rfl) (by kernel_rfl) (by kernel_rfl) (fun _ _ _ h => h) (Or.inl ⟨by rfl, fun w => by go_simp⟩) ?_
      try simp only [Act.put, List.getElem_toArray, List.getElem_cons_zero, List.getElem_cons_succ, List.setIfInBounds_toArray, List.set_cons_zero, List.set_cons_succ]
      refine wpAny_take (i := 13) (v := .pointer (some ⟨b, 1, none⟩)) rfl (by kernel_rfl) (by kernel_rfl) (by kernel_rfl) (fun _ _ _ h => h) (Or.inl ⟨by rfl, fun w => by go_simp⟩) ?_
      try simp only [Act.put, List.getElem_toArray, List.getElem_cons_zero, List.getElem_cons_succ, List.setIfInBounds_toArray, List.set_cons_zero, List.set_cons_succ]
      refine wpAny_ready (rs := [14]) (by kernel_rfl) (by simp) ?_
      refine AllReady.cons rfl (fun K hK => ?_) AllReady.nil
      go_simp
      refine hK _ _ ?_
      clear hK K
      try simp only [Act.put, List.getElem_toArray, List.getElem_cons_zero, List.getElem_cons_succ, List.setIfInBounds_toArray, List.set_cons_zero, List.set_cons_succ]
      refine wpAny_done (by kernel_rfl) ?_ _
      go_wp2
      go_ret
      exact ⟨_, rfl, rfl, g, cap, w1, hown1, hgrow, hat, hlt, rfl⟩

/-- What a write gives: the error; the disk with the write in its cache; nothing else has turned. -/
def DiskPost (w : World) (b : Nat) (D' : Dk) (F : Nat → Prop) (w' : World) : Prop :=
  ∃ F', DiskAt w' b D' F' ∧ Keep F w w' ∧ ∀ x, F' x → F x ∨ w.heap.size ≤ x
def CodePost (c : Int) (Q : World → Prop) (v : Value) (w' : World) : Prop := v = .int .u16 c ∧ Q w'

theorem DiskPost.same {w : World} {b : Nat} {D : Dk} {F : Nat → Prop} (h : DiskAt w b D F) : DiskPost w b D F w := ⟨F, h, Keep.refl _ _, fun _ hx => .inl hx⟩

set_option maxHeartbeats 400000 in
theorem write_bad {w : World} {b : Nat} {D : Dk} {F : Nat → Prop} (h : DiskAt w b D F) (at_ : Int) (v : Value) (hc : ¬ D.code at_ = 0) :
    Calls Try.prog 37 #[.pointer (some ⟨b, 0, none⟩), .int .i64 at_, v] w (Gives (CodePost (D.code at_) (DiskPost w b D F))) := by
  have hm := Lib.hid (may_any h at_)
  have hp := Lib.hid (DiskPost.same h)
  generalize hcc : D.code at_ = c at *
  have hcb : (c != 0) = true := by simpa using hc
  clear h hc hcc
  go_enter Try.func37, Try.ntmps37
  go_wp2_with ((go_at_call 82; refine hm.out.mono ?_; rintro e w' ⟨rfl, rfl⟩))
  go_ret
  exact ⟨_, rfl, rfl, hp.out⟩
set_option maxHeartbeats 400000 in
theorem write_len {w : World} {b : Nat} {D : Dk} {F : Nat → Prop} (h : DiskAt w b D F) (at_ : Int) (a : Option Addr) (n cap : Nat) (hc : D.code at_ = 0) (hn : n ≠ 128) :
    Calls Try.prog 37 #[.pointer (some ⟨b, 0, none⟩), .int .i64 at_, .slice a n cap] w (Gives (CodePost 4 (DiskPost w b D F))) := by
  have hm := Lib.hid (may_any h at_)
  have hp := Lib.hid (DiskPost.same h)
  rw [hc] at hm
  have hnb : ((n : Int) != 128) = true := by simp; omega
  clear h hc hn
  go_enter Try.func37, Try.ntmps37
  go_wp2_with ((go_at_call 82; refine hm.out.mono ?_; rintro e w' ⟨rfl, rfl⟩))
  go_ret
  exact ⟨_, rfl, rfl, hp.out⟩

theorem cacheCells_snoc (c : List (Nat × List Int)) (e : Nat × List Int) : cacheCells (c ++ [e]) = cacheCells c ++ entCells e := by simp [cacheCells]
theorem own_form {w : World} {base e size n : Nat} {v : Value} {xs : List Value} (h : w.ownsRow base e size v n xs) : ∃ a cap, v = .slice a n cap := by
  rcases h.2 with ⟨rfl, rfl⟩ | ⟨g, cap, _, hv, _⟩
  · exact ⟨none, 0, rfl⟩
  · exact ⟨_, _, hv⟩
/-- Two blocks of cells of other types are two. -/
theorem ne_of_elem {w : World} {a b : Nat} {ca cb : Array Value} {ta tb : TypeId} {fa fb : Nat × Nat} (ha : w.heap[a]? = some (.cells ca ta fa)) (hb : w.heap[b]? = some (.cells cb tb fb)) (h : ta ≠ tb) : a ≠ b := by
  rintro rfl
  rw [ha] at hb
  simp at hb
  exact h hb.2.1
theorem ne_of_map {w : World} {a b : Nat} {ca : Array Value} {ta : TypeId} {fa : Nat × Nat} {es : Array MapEntry} {ck : Nat} (ha : w.heap[a]? = some (.cells ca ta fa)) (hb : w.heap[b]? = some (.map es ck)) : a ≠ b := by
  rintro rfl
  rw [ha] at hb
  simp at hb
theorem own_elem {w : World} {base e size n g : Nat} {v : Value} {xs : List Value} (h : w.ownsRow base e size v n xs) (hg : v.ownBlock = some g) : ∃ cs, w.heap[g]? = some (.cells cs e (0, 0)) := by
  rcases h.2 with ⟨rfl, rfl⟩ | ⟨g', cap, cur, hv, _, hh, _⟩
  · cases hg
  · subst hv
    obtain rfl : g' = g := by simpa [Value.ownBlock] using hg
    exact ⟨_, hh⟩

theorem write_ok {w : World} {b : Nat} {D : Dk} {F : Nat → Prop} (h : DiskAt w b D F) (k : Nat) (v : Value) (xs : List Int) (hv : BytesAt w v xs) (hc : D.code k = 0) (hn : xs.length = 128) (hcl : D.cache.length ≤ 1000000) :
    Calls Try.prog 37 #[.pointer (some ⟨b, 0, none⟩), .int .i64 k, v] w (Gives (CodePost 0 (DiskPost w b (D.write k xs) F))) := by
  have hm := Lib.hid (may_any h k)
  rw [hc] at hm
  obtain ⟨hf, _, hk1⟩ := Dk.code_zero hc
  have hk : k < D.las.length := by omega
  have hwr : D.write k xs = { D with cache := D.cache ++ [(k, xs)] } := by
    have : D.wcode k xs.length = 0 := by unfold Dk.wcode; rw [if_pos hc, if_pos hn]
    unfold Dk.write; rw [if_pos this, Int.toNat_natCast]
  have okw := h.ok.write k xs
  rw [hwr] at okw ⊢
  obtain ⟨a, dcap, rfl, hdc, hdm, hda⟩ := hv
  obtain ⟨db, do_, rfl, hr⟩ := hda (by intro e; rw [e] at hn; cases hn)
  obtain ⟨bL, bS, csl, es, ck, hb, hbL, hbS, ⟨l, hl, hseen⟩, hown, hF, ok⟩ := id h
  obtain ⟨ca, cc, rfl⟩ := own_form hown
  have h0 := cell_at hb 0 rfl
  have h1 := cell_at hb 1 rfl
  have h2 := cell_at hb 2 rfl
  obtain ⟨es', ck', l', hrun, hl', hfind⟩ := run_update_seen w.drew bS k D.cache.length es ck hbS l hl
  obtain ⟨W2, hW2⟩ : ∃ W2 : World, W2 = { w.drew with heap := w.drew.heap.setIfInBounds bS (.map es' ck') } := ⟨_, rfl⟩
  have hlS := lt_of_heap hbS
  have hk2 : Keep (· = bS) w W2 := by
    subst hW2
    refine ⟨rfl, rfl, rfl, by simp, fun i hi hne => ?_⟩
    show (w.heap.setIfInBounds bS _)[i]? = _
    rw [Array.getElem?_setIfInBounds, if_neg (fun e => hne e.symm)]
  have hS2 : W2.heap[bS]? = some (.map es' ck') := by
    subst hW2
    show (w.heap.setIfInBounds bS _)[bS]? = _
    rw [Array.getElem?_setIfInBounds, if_pos rfl, if_pos hlS]
  have hsz2 : W2.heap.size = w.heap.size := by subst hW2; simp
  rw [← hW2] at hrun
  clear hW2
  have hbS1 : b ≠ bS := ne_of_map hb hbS
  have hLS : bL ≠ bS := ne_of_map hbL hbS
  have hb2 := hk2.at hb hbS1
  have hL2 := hk2.at hbL hLS
  have hown2 := ownsRow_keep hown hk2 (fun x hx e => by
    obtain ⟨cs, hcs⟩ := own_elem hown hx
    exact ne_of_map hcs hbS e)
  have hr2 : W2.rangeAt db do_ (u8s xs) := fun j u hu => by
    have := hr j u hu
    have hdS : db ≠ bS := by
      rintro rfl
      simp [World.cell?, hbS] at this
    rw [World.cell?_of_block (w := w) (hk2.block db (World.block_lt_of_cell? w _ this) hdS)]
    exact this
  have hne : (Value.slice ca D.cache.length cc).ownBlock ≠ some b := fun e => by
    obtain ⟨cs, hcs⟩ := own_elem hown e
    exact ne_of_elem hcs hb (by decide) rfl
  have hneL : (Value.slice ca D.cache.length cc).ownBlock ≠ some bL := fun e => by
    obtain ⟨cs, hcs⟩ := own_elem hown e
    exact ne_of_elem hcs hbL (by decide) rfl
  have hneS : (Value.slice ca D.cache.length cc).ownBlock ≠ some bS := fun e => by
    obtain ⟨cs, hcs⟩ := own_elem hown e
    exact ne_of_map hcs hbS rfl
  have hcore := write_core w W2 b k D.las.length bL bS dcap db do_ xs D.cache.length cc ca (cacheCells D.cache) hm h0 h1 h2 hk hn hrun (cell_at hb2 1 rfl) (free_at hb2 1) hr2 (lt_of_heap hb2) hown2 hcl hne
  rw [hn]
  refine hcore.mono fun e w' hg => ?_
  obtain ⟨_, rfl, rfl, g, cap, w1, hown1, hgrow, hat, hlt, rfl⟩ := hg
  have hkA : Keep (fun x => (Value.slice ca D.cache.length cc).ownBlock = some x) W2 w1 := (Keep.drew _ W2).trans' ((Keep.alloc _ W2.drew _).trans' (Keep.grown hgrow (fun x hx => hx)))
  have hb1 := hkA.at hb2 hne
  have hL1 := hkA.at hL2 hneL
  have hS1 := hkA.at hS2 hneS
  obtain ⟨gcs, hg1⟩ := own_elem hown1 rfl
  have hgb : g ≠ b := ne_of_elem hg1 hb1 (by decide)
  have hkB : Keep (· = b) w1 (w1.setCell ⟨b, 1, none⟩ (.slice (some ⟨g, 0, none⟩) (D.cache.length + 1) cap)) := Keep.setCell _ _ _ rfl
  have hbF := heap_setCell_same w1 b 1 _ _ (.slice (some ⟨g, 0, none⟩) (D.cache.length + 1) cap) hb1
  have hgF : g = w.heap.size + 1 ∨ (Value.slice ca D.cache.length cc).ownBlock = some g := by rw [← hsz2]; exact hat.symm
  refine ⟨_, rfl, rfl, fun x => x = b ∨ x = bL ∨ x = bS ∨ x = g, ⟨bL, bS, .slice (some ⟨g, 0, none⟩) (D.cache.length + 1) cap, es', ck', ?_, hkB.at hL1 (ne_of_elem hL1 hb1 (by decide)), hkB.at hS1 (fun e => ne_of_map hb1 hS1 e.symm), SeenOk.update (es := es) hseen hl' hfind, ?_, ?_, okw⟩, ?_, ?_⟩
  · simpa using hbF
  · have := ownsRow_keep hown1 hkB (fun x hx e => hgb (by simp [Value.ownBlock] at hx; rw [hx]; exact e))
    simpa [cacheCells_snoc, entCells] using this
  · intro x
    simp [Value.ownBlock]
    constructor <;> rintro (h | h | h | h) <;> simp [h]
  · refine ((hk2.mono (G := F) fun x _ e => (hF x).2 (.inr (.inr (.inl e)))).trans (G := fun x => (Value.slice ca D.cache.length cc).ownBlock = some x) hkA fun x _ hx => (hF x).2 (.inr (.inr (.inr hx)))).trans (G := (· = b)) hkB fun x _ e => (hF x).2 (.inl e)
  · rintro x (rfl | rfl | rfl | rfl)
    · exact .inl ((hF _).2 (.inl rfl))
    · exact .inl ((hF _).2 (.inr (.inl rfl)))
    · exact .inl ((hF _).2 (.inr (.inr (.inl rfl))))
    · rcases hgF with h | h
      · exact .inr (by omega)
      · exact .inl ((hF _).2 (.inr (.inr (.inr h))))

theorem write_any {w : World} {b : Nat} {D : Dk} {F : Nat → Prop} (h : DiskAt w b D F) (at_ : Int) (v : Value) (xs : List Int) (hv : BytesAt w v xs) (hcl : D.cache.length ≤ 1000000) :
    Calls Try.prog 37 #[.pointer (some ⟨b, 0, none⟩), .int .i64 at_, v] w (Gives (CodePost (D.wcode at_ xs.length) (DiskPost w b (D.write at_ xs) F))) := by
  by_cases hc : D.code at_ = 0
  · by_cases hn : xs.length = 128
    · obtain ⟨k, rfl⟩ := Int.eq_ofNat_of_zero_le (Dk.code_zero hc).2.1
      have : D.wcode k xs.length = 0 := by unfold Dk.wcode; rw [if_pos hc, if_pos hn]
      rw [this]
      exact write_ok h k v xs hv hc hn hcl
    · obtain ⟨a, cap, rfl, _⟩ := hv
      have h4 : D.wcode at_ xs.length = 4 := by unfold Dk.wcode; rw [if_pos hc, if_neg hn]
      have : D.write at_ xs = D := by unfold Dk.write; rw [h4, if_neg (by decide)]
      rw [h4, this]
      exact write_len h at_ a _ cap hc hn
  · have hw : D.wcode at_ xs.length = D.code at_ := by unfold Dk.wcode; rw [if_neg hc]
    have : D.write at_ xs = D := by unfold Dk.write; rw [hw, if_neg hc]
    rw [hw, this]
    exact write_bad h at_ v hc
end Go.Proofs.Ytghnbbpoaeheaaa
