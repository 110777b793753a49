/- The disk's functions, walked: Pending, Image. -/
import Derived.Test.YtghnbbpoaeheaaaDisk5
namespace Go.Proofs.Ytghnbbpoaeheaaa
open Go.RowKit

def ints (l : List Int) : List Value := l.map (Value.int .i64)
@[simp] theorem length_ints (l : List Int) : (ints l).length = l.length := by simp [ints]
/-- A list of ints in a row of its own. -/
def OwnI (w : World) (base : Nat) (v : Value) (l : List Int) : Prop := w.ownsRow base 3 1 v l.length (ints l)
def FreshI (w : World) (xs : List Int) (v : Value) (w' : World) : Prop := OwnI w' w.heap.size v xs ∧ Keep NoF w w'

theorem ownBlock_ge {w : World} {base e size n g : Nat} {v : Value} {xs : List Value} (h : w.ownsRow base e size v n xs) (hg : v.ownBlock = some g) : base ≤ g := (h.lt g hg).1

def Pends (w : World) (l : List Int) (v : Value) (wr : World) : Prop := OwnI wr w.heap.size v l ∧ Keep NoF w wr

set_option maxRecDepth 100000 in
set_option maxHeartbeats 1000000 in
theorem pending_row (w : World) (b bC cap : Nat) (cache : List (Nat × List Int)) (h1 : w.cell? ⟨b, 1, none⟩ = some (.slice (some ⟨bC, 0, none⟩) cache.length cap))
    (hent : ∀ j k d, cache[j]? = some (k, d) → w.rangeAt bC (j * 129) (entCells (k, d)) ∧ d.length = 128) (hcb : bC < w.heap.size) (hcl : cache.length ≤ 1000000) :
    Calls Try.prog 52 #[.pointer (some ⟨b, 0, none⟩)] w (Gives fun v w' => Pends w (cache.map fun e => (e.1 : Int)) v w') := by
  have HE := Lib.hid hent
  clear hent
  go_enter Try.func52, Try.ntmps52
  go_wp2_with fail
  go_loopw [3, 11] (fun v t wr => ∃ i : Nat, i ≤ cache.length ∧ t = .int .i64 i ∧ Pends w ((cache.take i).map fun e => (e.1 : Int)) v wr) (fun _ t _ => cache.length - (intOf t).toNat)
  case atStart => exact ⟨0, Nat.zero_le _, rfl, World.ownsRow_nil _ _ _ _, Keep.refl _ _⟩
  case round =>
    obtain ⟨i, hi, rfl, hp⟩ := hrel
    by_cases hlt : i < cache.length
    · obtain ⟨⟨k, d⟩, he⟩ : ∃ e, cache[i]? = some e := ⟨_, List.getElem?_eq_getElem hlt⟩
      obtain ⟨hr, hd⟩ := HE.out i k d he
      have hsz : (entCells (k, d)).length = 129 := by simp [entCells, hd]
      have hrr : wr.rangeAt bC (i * 129) (entCells (k, d)) := fun j u hu => by
        have := hr j u hu
        rw [World.cell?_of_block (w := w) (hp.2.block bC hcb (fun e => e))]; exact this
      have HR := Lib.hid hrr
      have HI := Lib.hid (show (Try.prog.info? 142).map (·.size) = some (entCells (k, d)).length by rw [size142, hsz])
      have HI2 := Lib.hid (show (Try.prog.info? 142).map (·.size) = some (entCells (k, d)).toArray.size by rw [size142, List.size_toArray, hsz])
      have HZ2 := Lib.hid (show (Zof 142).size = (entCells (k, d)).toArray.size by rw [zofs142, List.size_toArray, hsz])
      obtain ⟨z, hz, hzZ⟩ := zv142 wr
      have HZ := Lib.hid hz
      have HZZ := Lib.hid hzZ
      have HA : Hid ((entCells (k, d)).toArray.all (·.oneCell') = true) := all_oneCell_toArray (by intro v hv; rcases List.mem_cons.1 hv with rfl | hv; rfl; exact u8s_one d v hv)
      have HP := Lib.hid hp
      have HSN := Lib.hid (show cache.take (i + 1) = cache.take i ++ [(k, d)] by rw [List.take_add_one, he]; rfl)
      have hcw : (wr.alloc (.cells (entCells (k, d)).toArray 142)).cell? ⟨wr.heap.size, 0, none⟩ = some (.int .i64 k) := cell_at (heap_alloc_new wr _) 0 (by simp [entCells])
      have HOWN : Hid (((wr.alloc (.cells (entCells (k, d)).toArray 142)).alloc (.cells #[.int .i64 k] 3)).ownsRow w.heap.size 3 1 u3 ((cache.take i).map fun e => (e.1 : Int)).length (ints ((cache.take i).map fun e => (e.1 : Int)))) := World.ownsRow.alloc (World.ownsRow.alloc hp.1 _) _
      have HN : Hid (∀ j u, [Value.int .i64 k][j]? = some u → ((wr.alloc (.cells (entCells (k, d)).toArray 142)).alloc (.cells #[.int .i64 k] 3)).cell? ((⟨wr.heap.size + 1, 0, none⟩ : Addr).add j) = some u) := by
        have h := cell_one_new (wr.alloc (.cells (entCells (k, d)).toArray 142)) (.int .i64 k) 3
        rw [show (wr.alloc (.cells (entCells (k, d)).toArray 142)).heap.size = wr.heap.size + 1 by simp] at h
        exact h
      have hsize := hp.2.size
      have HLT := Lib.hid (show ((cache.take i).map fun e => (e.1 : Int)).length = i by simp; omega)
      have HSIZE := Lib.hid hsize
      clear hr hrr hsz hz hzZ hp hd he hsize
      go_wp2_with (first | ((with_reducible refine wpList_load_mid rfl 142 _ rfl bC (i*129) ?_ (entCells (k, d)) _ HR.out Try.underlying142 rfl HI.out ?_); (next => rfl)) | (with_reducible refine wpList_alloc_Z rfl 142 rfl z (Zof 142) HZ.out HZZ.out ?_) | ((with_reducible refine wpList_store_new rfl 142 _ _ rfl (Zof 142) (entCells (k, d)).toArray 142 ?_ ?_ HI2.out HZ2.out HA.out ?_); (next => rfl); (next => rfl)) | (at_builtin; go_must (refine wpList_app76 rfl _ _ rfl w.heap.size _ _ _ rfl HOWN.out ⟨wr.heap.size + 1, 0, none⟩ 1 1 [.int .i64 k] rfl rfl HN.out ?c3 ?c4 ?c5 ?_)))
      case c3 => intro u hu; simp at hu; subst hu; rfl
      case c4 => have := HLT.out; omega
      case c5 => have := HSIZE.out; simp; omega
      intro v' w' ho hg _
      have HO := Lib.hid ho
      have HG := Lib.hid hg
      clear ho hg
      go_wp2
      refine ⟨⟨i + 1, by omega, by go_num, ?_, ?_⟩, by simp [intOf]; omega⟩
      · have := HO.out
        unfold OwnI
        rw [HSN.out, List.map_append]
        simpa [ints, Nat.min_eq_left (Nat.le_of_lt hlt)] using this
      · refine HP.out.2.trans (G := fun x => u3.ownBlock = some x) ?_ fun x hx e => ?_
        · exact (Keep.alloc _ _ _).trans' ((Keep.alloc _ _ _).trans' (Keep.grown HG.out fun x hx => hx))
        · exact absurd (ownBlock_ge HP.out.1 e) (by omega)
    · have hie : i = cache.length := by omega
      subst hie
      have HP := Lib.hid hp
      clear hp h1
      go_wp2
      go_ret
      have := HP.out
      rw [List.take_length] at this
      exact ⟨_, rfl, this⟩
set_option maxHeartbeats 400000 in
theorem pending_nil (w : World) (b : Nat) (h1 : w.cell? ⟨b, 1, none⟩ = some (.slice none 0 0)) :
    Calls Try.prog 52 #[.pointer (some ⟨b, 0, none⟩)] w (Gives fun v w' => v = .slice none 0 0 ∧ w = w') := by
  go_enter Try.func52, Try.ntmps52
  go_wp2_with fail
  refine wp_loop_rounds 1 ?_
  rw [rounds_succ]
  go_wp2
  go_ret
  exact ⟨_, rfl, rfl, rfl⟩
theorem pending_any {w : World} {b : Nat} {D : Dk} {F : Nat → Prop} (h : DiskAt w b D F) (hcl : D.cache.length ≤ 1000000) :
    Calls Try.prog 52 #[.pointer (some ⟨b, 0, none⟩)] w (Gives (FreshI w D.pending)) := by
  obtain ⟨bL, bS, csl, es, ck, hl⟩ := h.lies
  rcases id hl.own.2 with ⟨rfl, h0⟩ | ⟨g, cap, cur, rfl, _, hh, _⟩
  · have hc : D.cache = [] := List.length_eq_zero_iff.1 h0
    refine (pending_nil w b (cell_at hl.hb 1 rfl)).mono fun e w' hg => ?_
    obtain ⟨v, rfl, rfl, rfl⟩ := hg
    refine ⟨_, rfl, ?_, Keep.refl _ _⟩
    unfold Dk.pending
    rw [hc]
    exact World.ownsRow_nil _ _ _ _
  · exact pending_row w b g cap D.cache (cell_at hl.hb 1 rfl) (fun j k d hj => ⟨(hl.rows j k d hj).1, (hl.rows j k d hj).2.2⟩) (lt_of_heap hh) hcl

/-! ### Image -/
set_option maxHeartbeats 400000 in
theorem image_failed (w : World) (b : Nat) (h3 : w.cell? ⟨b, 3, none⟩ = some (.bool true)) :
    Calls Try.prog 18 #[.pointer (some ⟨b, 0, none⟩)] w (Gives fun v w' => v = .slice none 0 0 ∧ w = w') := by
  go_enter Try.func18, Try.ntmps18
  go_wp2
  go_ret
  exact ⟨_, rfl, rfl, rfl⟩

def Imaged (w : World) (l : List Int) (v : Value) (wr : World) : Prop := OwnB wr w.heap.size v l ∧ Keep NoF w wr
theorem wpList_make22 {ops : Array Oper} {rest : List Oper} {o : Oper} {a : Act} {Q : Exit → Act → World → Prop} {w : World} (hg : o.guard = none) (l c : Operand) (hop : o.op = Op.makeSlice 22 l c)
    (C : Int) (n : Nat) (hl : a.eval l = .int .i64 0) (hc : a.eval c = .int .i64 C) (hC : C = (n : Int)) (b2 : n ≤ 1073741824)
    (hK : ∀ w', w'.ownsRow w.heap.size 5 1 (.slice (some ⟨w.heap.size, 0, none⟩) 0 n) 0 [] → w.grownBy w' none → wpList Try.prog ops Q rest (a.put o.dst (.slice (some ⟨w.heap.size, 0, none⟩) 0 n)) w') : wpList Try.prog ops Q (o :: rest) a w := by
  obtain ⟨i, hi, he⟩ := info_of i5
  simp only [Prod.mk.injEq] at he
  exact wpList_make_own w hg l c 22 hop w.heap.size 5 i (.int .u8 0) 1 Try.underlying22 hi he.1 he.2.1 .i64 .i64 C n hl hc hC (by rw [he.2.2]; omega) (by unfold maxLen; omega) (Nat.le_refl _) hK

set_option maxRecDepth 100000 in
set_option maxHeartbeats 1000000 in
theorem image_row (w : World) (b bL n : Nat) (las : List (List Int)) (h0 : w.cell? ⟨b, 0, none⟩ = some (.slice (some ⟨bL, 0, none⟩) n n)) (h3 : w.cell? ⟨b, 3, none⟩ = some (.bool false))
    (hrow : ∀ (i : Nat) (s : List Int), las[i]? = some s → w.rangeAt bL (i * 128) (u8s s)) (hsec : ∀ s ∈ las, s.length = 128) (hn : las.length = n) (hnn : n ≤ 8192) (hbL : bL < w.heap.size) (hb : b < w.heap.size) :
    Calls Try.prog 18 #[.pointer (some ⟨b, 0, none⟩)] w (Gives fun v w' => Imaged w las.flatten v w') := by
  have HROW := Lib.hid hrow
  have HSEC := Lib.hid hsec
  have HN := Lib.hid hn
  clear hrow hsec hn
  go_enter Try.func18, Try.ntmps18
  go_wp2_with (at_make; go_must (refine wpList_make22 rfl _ _ rfl _ (n * 128) rfl rfl (by simp) (by omega) ?_))
  intro w1 ho1 hg1
  have HK1 : Hid (Keep NoF w w1) := Keep.grown hg1 (fun _ h => by cases h)
  have k0 : w1.cell? ⟨b, 0, none⟩ = some (.slice (some ⟨bL, 0, none⟩) n n) := (World.cell?_of_block (w := w) (hg1.block b hb (by simp))).trans h0
  have HO1 := Lib.hid ho1
  clear ho1 hg1 h3
  go_wp2_with fail
  go_loopw [3, 21] (fun v t wr => ∃ i : Nat, i ≤ n ∧ t = .int .i64 i ∧ Imaged w (las.take i).flatten v wr) (fun _ t _ => n - (intOf t).toNat)
  case atStart => exact ⟨0, Nat.zero_le _, rfl, by simpa [OwnB, u8s] using HO1.out, HK1.out⟩
  case round =>
    obtain ⟨i, hi, rfl, hp⟩ := hrel
    by_cases hlt : i < n
    · obtain ⟨s, hs⟩ : ∃ s, las[i]? = some s := ⟨_, List.getElem?_eq_getElem (by rw [HN.out]; exact hlt)⟩
      have hs128 : s.length = 128 := HSEC.out s (List.mem_of_getElem? hs)
      have hr := HROW.out i s hs
      have hlen : ((las.take i).flatten).length = i * 128 := by
        have h := length_lasCells (las := las.take i) (fun s hs => HSEC.out s (List.mem_of_mem_take hs))
        rw [lasCells, length_u8s, List.length_take, HN.out, Nat.min_eq_left hi] at h
        exact h
      have kb : wr.cell? ⟨b, 0, none⟩ = some (.slice (some ⟨bL, 0, none⟩) n n) := (World.cell?_of_block (w := w) (hp.2.block b hb (fun e => e))).trans h0
      have HN2 : Hid (∀ j u, (u8s s)[j]? = some u → wr.cell? ((⟨bL, i * 128, none⟩ : Addr).add j) = some u) := fun j u hu => by
        rw [Addr.add_mid, World.cell?_of_block (w := w) (hp.2.block bL hbL (fun e => e))]; exact hr j u hu
      have HP := Lib.hid hp
      have hown := hp.1
      unfold OwnB at hown
      rw [hlen] at hown
      have HOWN := Lib.hid hown
      have HL := Lib.hid (show (u8s s).length = 128 by rw [length_u8s, hs128])
      have HSN := Lib.hid (show (las.take (i + 1)).flatten = (las.take i).flatten ++ s by rw [List.take_add_one, hs]; simp)
      have HLE := Lib.hid hlen
      have HS128 := Lib.hid hs128
      have HSZ := Lib.hid hp.2.size
      clear hr hp hown hlen hs hs128 h0 k0
      go_wp2_with (at_builtin; go_must (refine wpList_app22 rfl _ _ rfl w.heap.size _ (i * 128) _ rfl HOWN.out ⟨bL, i * 128, none⟩ 128 128 (u8s s) rfl HL.out HN2.out (u8s_one s) (by omega) HSZ.out ?_))
      intro v' w' ho hg _
      have HO := Lib.hid ho
      have HG := Lib.hid hg
      clear ho hg
      go_wp2
      refine ⟨⟨i + 1, by omega, by go_num, ?_, ?_⟩, by simp [intOf]; omega⟩
      · have := HO.out
        unfold OwnB
        rw [HSN.out, u8s_append, List.length_append, HLE.out, HS128.out]
        exact this
      · exact HP.out.2.trans (G := fun x => u3.ownBlock = some x) (Keep.grown HG.out fun x hx => hx) fun x hx e => absurd (ownBlock_ge HP.out.1 e) (by omega)
    · have hie : i = n := by omega
      subst hie
      have HP := Lib.hid hp
      clear hp h0 k0
      go_wp2
      go_ret
      have := HP.out
      rw [List.take_of_length_le (by rw [HN.out]; exact Nat.le_refl _)] at this
      exact ⟨_, rfl, this⟩

theorem image_any {w : World} {b : Nat} {D : Dk} {F : Nat → Prop} (h : DiskAt w b D F) :
    Calls Try.prog 18 #[.pointer (some ⟨b, 0, none⟩)] w (Gives (FreshB w D.image)) := by
  obtain ⟨bL, bS, csl, es, ck, hl⟩ := h.lies
  have h0 := cell_at hl.hb 0 rfl
  have h3 := cell_at hl.hb 3 rfl
  unfold Dk.image
  cases hf : D.failed
  · rw [hf] at h3
    exact image_row w b bL _ D.las h0 h3 (fun i s hs => h.sector h0 hs) hl.sec rfl hl.le (lt_of_heap hl.hbL) (lt_of_heap hl.hb)
  · rw [hf] at h3
    refine (image_failed w b h3).mono fun e w' hg => ?_
    obtain ⟨v, rfl, rfl, rfl⟩ := hg
    exact ⟨_, rfl, World.ownsRow_nil _ _ _ _, Keep.refl _ _⟩
end Go.Proofs.Ytghnbbpoaeheaaa
