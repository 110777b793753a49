/- The bay's functions, walked: New. -/
import Derived.Test.YtghnbbpoaeheaaaDL7
import Derived.Deep.QuietTactic
namespace Go.Proofs.Ytghnbbpoaeheaaa
open Go.RowKit

/-- A list of ints as a slice. -/
def IntsAt (w : World) (v : Value) (l : List Int) : Prop :=
  ∃ a cap, v = .slice a l.length cap ∧ l.length ≤ maxLen ∧ (l ≠ [] → ∃ bb o, a = some ⟨bb, o, none⟩ ∧ w.rangeAt bb o (ints l))
theorem IntsAt.keep {w w' : World} {v : Value} {l : List Int} {G : Nat → Prop} (h : IntsAt w v l) (hk : Keep G w w') (hG : l ≠ [] → ∀ a n c, v = .slice (some a) n c → ¬ G a.block) : IntsAt w' v l := by
  obtain ⟨a, cap, hv, h2, h3⟩ := h
  refine ⟨a, cap, hv, h2, fun hl => ?_⟩
  obtain ⟨bb, o, ha, hr⟩ := h3 hl
  refine ⟨bb, o, ha, fun j u hu => ?_⟩
  have hc := hr j u hu
  have hb := World.block_lt_of_cell? w _ hc
  rw [World.cell?_of_block (w := w) (hk.block bb hb (by subst ha; exact hG hl _ _ _ hv))]
  exact hc

theorem map_put (ptr : Nat → Value) (m i : Nat) (v : Value) : ((List.range m).map ptr).toArray.setIfInBounds i v = ((List.range m).map (put ptr i v)).toArray := by
  apply Array.ext_getElem?
  intro j
  rw [Array.getElem?_setIfInBounds]
  simp only [List.getElem?_toArray, List.getElem?_map, List.size_toArray, List.length_map, List.length_range, List.getElem?_range']
  by_cases hij : i = j
  · subst hij
    by_cases hm : i < m
    · simp [hm]
    · simp [hm]
  · rw [if_neg hij]
    by_cases hm : j < m
    · simp [hm, put_other ptr v (Ne.symm hij)]
    · simp [hm]

theorem BayLies.place {w : World} {b : Nat} {B : By} {F : Nat → Prop} {bs : Nat} {ptr : Nat → Value} {Fs : Nat → Nat → Prop} (h : BayLies w b B F bs ptr Fs) {i : Nat} {v' : Value} {d' : Dev} {F' : Nat → Prop} (hd : DevAt w v' (some d') F') (hF' : ∀ x, F' x → ¬ F x)
    (hi : i < B.n * 3) (hl : 0 ≤ d'.left ∧ d'.left ≤ 9223372036854775807) :
    BayLies (w.setCell ⟨bs, i, none⟩ v') b (B.setDev i (some d')) (fun x => x = b ∨ x = bs ∨ ∃ j, put Fs i F' j x) bs (put ptr i v') (put Fs i F') := by
  have hk : Keep (· = bs) w (w.setCell ⟨bs, i, none⟩ v') := Keep.setCell (F := (· = bs)) w ⟨bs, i, none⟩ v' rfl
  have hbs : b ≠ bs := ne_of_elem h.hb h.hs (by decide)
  have hs := heap_setCell_same w bs i _ _ v' h.hs
  rw [map_put] at hs
  have hFj : ∀ j x, Fs j x → F x := fun j x hx => (h.hF x).2 (.inr (.inr ⟨j, hx⟩))
  have hFb : F b := (h.hF b).2 (.inl rfl)
  have hFs : F bs := (h.hF bs).2 (.inr (.inl rfl))
  refine ⟨hk.at h.hb hbs, hs, fun j => ?_, fun a c x hac ha hc => ?_, fun j => ?_, fun j => ?_, fun x => Iff.rfl, ⟨h.ok.pos, h.ok.le, fun j hj => ?_, fun j d hd' => ?_, h.ok.trip⟩⟩
  · by_cases hj : j = i
    · subst hj
      simp only [By.setDev, put_same]
      exact hd.keep hk (fun x hx e => hF' x hx (e ▸ hFs))
    · simp only [By.setDev, put_other _ _ hj]
      exact (h.dev j).keep hk (fun x hx e => h.owns j (e ▸ hx))
  · by_cases h1 : a = i
    · subst h1
      rw [put_same] at ha
      rw [put_other _ _ (Ne.symm hac)] at hc
      exact hF' x ha (hFj c x hc)
    · rw [put_other _ _ h1] at ha
      by_cases h2 : c = i
      · subst h2
        rw [put_same] at hc
        exact hF' x hc (hFj a x ha)
      · rw [put_other _ _ h2] at hc
        exact h.apart a c x hac ha hc
  · by_cases hj : j = i
    · subst hj; rw [put_same]; exact fun hx => hF' _ hx hFb
    · rw [put_other _ _ hj]; exact h.ownb j
  · by_cases hj : j = i
    · subst hj; rw [put_same]; exact fun hx => hF' _ hx hFs
    · rw [put_other _ _ hj]; exact h.owns j
  · have : j ≠ i := by simp only [By.setDev] at hj; omega
    simp only [By.setDev, put_other _ _ this]; exact h.ok.out j hj
  · by_cases hj : j = i
    · subst hj; simp [By.setDev] at hd'; exact hd' ▸ hl
    · simp only [By.setDev, put_other _ _ hj] at hd'; exact h.ok.left j d hd'

/-- The bay behind the first m sizes. -/
def freshDev (s : Int) : Option Dev := if s = 0 then none else some { disk := Dk.new s.toNat, worn := false, left := 0 }
def By.fresh (l : List Int) (m : Nat) : By :=
  { n := l.length, dev := fun j => if j % 3 = 0 ∧ j / 3 < m then freshDev (l.getD (j / 3) 0) else none, dark := false, trip := -1, cr := 0, cw := 0, cf := 0 }
def sizeOk (s : Int) : Prop := s = 0 ∨ (1 ≤ s ∧ s ≤ 8192)
instance (s : Int) : Decidable (sizeOk s) := inferInstanceAs (Decidable (_ ∨ _))
theorem fresh_zero (l : List Int) (m : Nat) (hm : m < l.length) (h0 : l[m]? = some 0) : By.fresh l (m + 1) = By.fresh l m := by
  unfold By.fresh
  congr 1
  funext j
  by_cases hj : j % 3 = 0 ∧ j / 3 < m
  · rw [if_pos hj, if_pos ⟨hj.1, by omega⟩]
  · rw [if_neg hj]
    by_cases hj2 : j % 3 = 0 ∧ j / 3 < m + 1
    · rw [if_pos hj2]
      have : j / 3 = m := by omega
      rw [this, List.getD_eq_getElem?_getD, h0]
      rfl
    · rw [if_neg hj2]
theorem fresh_some (l : List Int) (m : Nat) (s : Int) (hm : m < l.length) (h0 : l[m]? = some s) (hs : s ≠ 0) : By.fresh l (m + 1) = (By.fresh l m).setDev (m * 3) (some { disk := Dk.new s.toNat, worn := false, left := 0 }) := by
  unfold By.fresh By.setDev
  congr 1
  funext j
  by_cases hj : j = m * 3
  · subst hj
    have h1 : (m * 3) % 3 = 0 ∧ m * 3 / 3 < m + 1 := by omega
    rw [if_pos h1, put_same, show m * 3 / 3 = m by omega, List.getD_eq_getElem?_getD, h0]
    simp [freshDev, hs]
  · rw [put_other _ _ hj]
    dsimp only
    by_cases hj2 : j % 3 = 0 ∧ j / 3 < m
    · rw [if_pos hj2, if_pos ⟨hj2.1, by omega⟩]
    · rw [if_neg hj2, if_neg (by omega)]
/-- A bay that was made: all of its blocks are new. -/
def NewBay (w : World) (b : Nat) (B : By) (w' : World) : Prop := ∃ F, BayAt w' b B F ∧ Keep NoF w w' ∧ ∀ x, F x → w.heap.size ≤ x

theorem i135 : (Try.prog.info? 135).map (fun i => (i.zero, i.size, i.bytes)) = some (some (.agg #[.pointer none, .pointer none, .pointer none]), 3, 24) := by kernel_rfl
theorem wpList_make128 {ops : Array Oper} {rest : List Oper} {o : Oper} {a : Act} {Q : Exit → Act → World → Prop} {w : World} (hg : o.guard = none) (l c : Operand) (hop : o.op = Op.makeSlice 128 l c)
    (C : Int) (n : Nat) (hl : a.eval l = .int .i64 C) (hc : a.eval c = .int .i64 C) (hC : C = (n : Int)) (b2 : n ≤ 8192)
    (hK : ∀ w', w'.heap[w.heap.size]? = some (.cells ((List.range (n * 3)).map fun _ => .pointer none).toArray 135 (0, 0)) → w.grownBy w' none → wpList Try.prog ops Q rest (a.put o.dst (.slice (some ⟨w.heap.size, 0, none⟩) n n)) w') : wpList Try.prog ops Q (o :: rest) a w := by
  obtain ⟨i, hi, he⟩ := info_of i135
  simp only [Prod.mk.injEq] at he
  obtain ⟨he1, he2, he3⟩ := he
  refine wpList_make_full w hg l c 128 hop w.heap.size 135 i _ 3 Try.underlying128 hi he1 he2 .i64 .i64 C C n hl hc hC hC (by rw [he3]; omega) (by unfold maxLen; omega) (Nat.le_refl _) ?_
  intro w' h1 h2
  refine hK w' ?_ h2
  rcases h1.2 with ⟨h, _⟩ | ⟨g, cap, cur, hv, hg', hh, hc', hm, hs, ht⟩
  · cases h
  obtain ⟨rfl, rfl⟩ : g = w.heap.size ∧ cap = n := by simp at hv; exact ⟨hv.1.symm, hv.2.symm⟩
  rw [hh]
  have e : (madeCells (Value.agg #[.pointer none, .pointer none, .pointer none]).cells (cap * 3)).toList = (List.range (cap * 3)).map fun _ => Value.pointer none := by
    unfold madeCells
    rw [Array.toList_map, Array.toList_range]
    apply List.map_congr_left
    intro j _
    have hj : j % 3 < 3 := Nat.mod_lt _ (by decide)
    show (#[Value.pointer none, .pointer none, .pointer none] : Array Value)[j % 3]! = _
    rcases (by omega : j % 3 = 0 ∨ j % 3 = 1 ∨ j % 3 = 2) with h | h | h <;> rw [h] <;> rfl
  rw [← e, ← ht, ← hs, List.take_of_length_le (by simp)]

theorem run_build130 (a : Addr) (n m : Nat) (w : World) : (Instr.build 130 #[(2, .int .i64 (-1)), (0, .slice (some a) n m)]).run Try.prog w = .ok (.agg #[.slice (some a) n m, .bool false, .int .i64 (-1), .int .i64 0, .int .i64 0, .int .i64 0]) w := by kernel_rfl
theorem run_build133 (x : Value) (hx : x.oneCell' = true) (w : World) : (Instr.build 133 #[(0, x)]).run Try.prog w = .ok (.agg #[x, .bool false, .int .i64 0]) w := by
  cases x <;> simp [Value.oneCell'] at hx <;> kernel_rfl

theorem bnew_arg (w : World) (a : Option Addr) (n cap : Nat) (h : n < 1 ∨ 17 < n) : Calls Try.prog 24 #[.slice a n cap] w fun e w' => e = .returned (.tuple #[.pointer none, .int .u16 1]) ∧ w = w' := by
  rcases h with h | h
  · go_enter Try.func24, Try.ntmps24
    go_wp2
    go_ret2
    exact ⟨rfl, rfl⟩
  · have h' : ¬ n < 1 := by omega
    go_enter Try.func24, Try.ntmps24
    go_wp2
    go_ret2
    exact ⟨rfl, rfl⟩

theorem setCell_alloc_comm (w : World) (a : Addr) (v : Value) (o : Obj) (h : a.block < w.heap.size) : (w.setCell a v).alloc o = (w.alloc o).setCell a v := by
  have e : ∀ f : Obj → Obj, (w.heap.modify a.block f).push o = (w.heap.push o).modify a.block f := fun f => by
    apply Array.ext_getElem?
    intro i
    rw [Array.getElem?_push, Array.getElem?_modify, Array.getElem?_modify, Array.getElem?_push, Array.size_modify]
    by_cases hi : i = w.heap.size
    · rw [if_pos hi, if_neg (by omega), if_pos hi]
    · rw [if_neg hi, if_neg hi]
  unfold World.setCell World.alloc
  simp only [e]
/-- What New's loop has done behind m sizes. -/
def Newing (w : World) (b : Nat) (l : List Int) (m : Nat) (wr : World) : Prop := NewBay w b (By.fresh l m) wr

set_option maxRecDepth 100000 in
set_option maxHeartbeats 1000000 in
theorem bnew_loop (w : World) (bb o cap : Nat) (l : List Int) (h1 : 1 ≤ l.length) (h17 : l.length ≤ 17) (hr : w.rangeAt bb o (ints l)) :
    Calls Try.prog 24 #[.slice (some ⟨bb, o, none⟩) l.length cap] w (Gives fun v w' => (v = .tuple #[.pointer none, .int .u16 40] ∧ ¬ (∀ s ∈ l, sizeOk s) ∧ Keep NoF w w') ∨ ((∀ s ∈ l, sizeOk s) ∧ ∃ b, v = .tuple #[.pointer (some ⟨b, 0, none⟩), .int .u16 0] ∧ NewBay w b (By.fresh l l.length) w')) := by
  have hb1 := fun (a : Addr) (n m : Nat) (w : World) => run_build130 a n m w
  have hb2 := fun (a : Addr) (w : World) => run_build133 (.pointer (some a)) rfl w
  have HR := Lib.hid hr
  have e1 : (1 : Int) ≤ l.length := by omega
  have e2 : (l.length : Int) ≤ 17 := by omega
  clear hr
  go_enter Try.func24, Try.ntmps24
  go_wp2_with (at_make; go_must (refine wpList_make128 rfl _ _ rfl _ l.length rfl rfl rfl (by omega) ?_); intro w1 ho hg; have HO := Lib.hid ho; have HG := Lib.hid hg; clear ho hg)
  have HK1 : Hid (Keep NoF w w1) := Keep.grown HG.out (fun _ h => by cases h)
  go_loopw [24] (fun t wr => ∃ i : Nat, i ≤ l.length ∧ t = .int .i64 i ∧ (∀ s ∈ l.take i, sizeOk s) ∧ Newing w w1.heap.size l i wr) (fun t _ => l.length - (intOf t).toNat)
  case atStart =>
    have e1 := Below.heap_alloc w1 (.cells #[.slice (some ⟨w.heap.size, 0, none⟩) l.length l.length, .bool false, .int .i64 (-1), .int .i64 0, .int .i64 0, .int .i64 0] 130) w.heap.size (lt_of_heap HO.out)
    refine ⟨0, Nat.zero_le _, rfl, by simp, fun x => x = w1.heap.size ∨ x = w.heap.size ∨ ∃ _ : Nat, False, ⟨w.heap.size, fun _ => .pointer none, fun _ _ => False, heap_alloc_new w1 _, e1.trans HO.out, fun j => ?_, fun _ _ _ _ h => h.elim, fun _ h => h, fun _ h => h, fun x => Iff.rfl, ⟨h1, h17, fun j _ => ?_, fun j d hd => ?_, ⟨by show (-1 : Int) ≤ -1; decide, by show (-1 : Int) ≤ 9223372036854775807; decide⟩⟩⟩, HK1.out.trans' (Keep.alloc _ _ _), ?_⟩
    · have : (By.fresh l 0).dev j = none := by simp [By.fresh]
      rw [this]; exact ⟨rfl, fun _ h => h⟩
    · simp [By.fresh]
    · simp [By.fresh] at hd
    · have := HK1.out.size
      rintro x (rfl | rfl | ⟨_, h⟩)
      · exact this
      · exact Nat.le_refl _
      · exact h.elim
  case round =>
    obtain ⟨i, hi, rfl, hok, F, hbay, hkeep, hFge⟩ := hrel
    by_cases hlt : i < l.length
    · obtain ⟨s, hs⟩ : ∃ s, l[i]? = some s := ⟨_, List.getElem?_eq_getElem hlt⟩
      have hcell : wr.cell? ⟨bb, o + i, none⟩ = some (.int .i64 s) := by
        have h := HR.out i (.int .i64 s) (by simp [ints, hs])
        rw [World.cell?_of_block (w := w) (hkeep.block bb (World.block_lt_of_cell? w _ h) (fun h => h))]; exact h
      have hsm : s ∈ l := List.mem_of_getElem? hs
      have HT : Hid (∀ x ∈ l.take (i + 1), x = s ∨ x ∈ l.take i) := fun x hx => by
        rw [List.take_add_one, hs] at hx
        rcases List.mem_append.1 hx with hx | hx
        · exact .inr hx
        · exact .inl (by simpa using hx)
      by_cases hs0 : s = 0
      · have hf := Lib.hid (fresh_zero l i hlt (by rw [hs, hs0]))
        have HB : Hid (NewBay w w1.heap.size (By.fresh l i) wr) := ⟨F, hbay, hkeep, hFge⟩
        have HOK := Lib.hid hok
        subst hs0
        clear hbay hkeep hFge hok hs hsm h1 h17
        go_wp2
        refine ⟨⟨i + 1, by omega, by go_num, fun x hx => ?_, ?_⟩, by simp [intOf]; omega⟩
        · rcases HT.out x hx with rfl | hx
          · exact .inl rfl
          · exact HOK.out x hx
        · have := HB.out; rw [← hf.out] at this; exact this
      · have hne : (s == 0) = false := by simpa using hs0
        by_cases hsz : 1 ≤ s ∧ s ≤ 8192
        · have hnew := new_any s wr
          simp only [if_pos hsz] at hnew
          have HN := Lib.hid hnew
          obtain ⟨bs, ptr, Fs, hl⟩ := id hbay
          have hl0 : ptr (i * 3) = .pointer none := by
            have := hl.dev (i * 3)
            rw [show (By.fresh l i).dev (i * 3) = none by unfold By.fresh; dsimp only; rw [if_neg (by omega)]] at this
            exact this.none_form
          have HC : Hid (∀ w2, Keep NoF wr w2 → (w2.cell? ⟨w1.heap.size, 0, none⟩ = some (.slice (some ⟨bs, 0, none⟩) l.length l.length) ∧ w2.cell? ⟨bs, i * 3, none⟩ = some (.pointer none)) ∧ w2.frozen? ⟨bs, i * 3, none⟩ = false ∧ w1.heap.size < w2.heap.size ∧ bs < w2.heap.size) := fun w2 hk => by
            have hl2 := hl.keep hk (fun _ _ h => h)
            refine ⟨⟨hl2.head.1, by rw [hl2.slot (j := i * 3) (by show i * 3 < l.length * 3; omega), hl0]⟩, free_at hl2.hs _, lt_of_heap hl2.hb, lt_of_heap hl2.hs⟩
          have HE : Hid (∀ w2 bd Fd, DiskAt w2 bd (Dk.new s.toNat) Fd → Keep NoF wr w2 → (∀ x, Fd x → wr.heap.size ≤ x) → Newing w w1.heap.size l (i + 1) ((w2.alloc (.cells #[.pointer (some ⟨bd, 0, none⟩), .bool false, .int .i64 0] 133)).setCell ⟨bs, i * 3, none⟩ (.pointer (some ⟨w2.heap.size, 0, none⟩)))) := fun w2 bd Fd hd hk hFd => by
            have hk3 : Keep NoF w2 (w2.alloc (.cells #[.pointer (some ⟨bd, 0, none⟩), .bool false, .int .i64 0] 133)) := Keep.alloc _ _ _
            have hl3 := (hl.keep hk (fun _ _ h => h)).keep hk3 (fun _ _ h => h)
            have hlt2 := hl.lt
            have hsz2 := hk.size
            have hdev : DevAt (w2.alloc (.cells #[.pointer (some ⟨bd, 0, none⟩), .bool false, .int .i64 0] 133)) (.pointer (some ⟨w2.heap.size, 0, none⟩)) (some { disk := Dk.new s.toNat, worn := false, left := 0 }) (fun x => x = w2.heap.size ∨ Fd x) :=
              ⟨w2.heap.size, bd, Fd, rfl, heap_alloc_new w2 _, hd.keep hk3 (fun _ _ h => h), fun hx => absurd (hd.lt _ hx) (by omega), fun x => Iff.rfl⟩
            have hpl := hl3.place (i := i * 3) hdev (fun x hx hF => by
              have := hlt2 x hF
              rcases hx with rfl | hx
              · omega
              · have := hFd x hx; omega) (by show i * 3 < l.length * 3; omega) ⟨by show (0 : Int) ≤ 0; decide, by show (0 : Int) ≤ 9223372036854775807; decide⟩
            have hkk : Keep (· = bs) (w2.alloc (.cells #[.pointer (some ⟨bd, 0, none⟩), .bool false, .int .i64 0] 133)) _ := Keep.setCell (F := (· = bs)) _ ⟨bs, i * 3, none⟩ (.pointer (some ⟨w2.heap.size, 0, none⟩)) rfl
            have hbsge : w.heap.size ≤ bs := hFge bs ((hl.hF bs).2 (.inr (.inl rfl)))
            have hsz1 := hkeep.size
            refine ⟨_, ⟨bs, _, _, by rw [fresh_some l i s hlt hs hs0]; exact hpl⟩, ((hkeep.trans' hk).trans' hk3).trans hkk (fun x hx e => by have : x = bs := e; omega), ?_⟩
            rintro x (rfl | rfl | ⟨j, hj⟩)
            · exact hFge _ ((hl.hF _).2 (.inl rfl))
            · exact hbsge
            · by_cases e : j = i * 3
              · subst e; rw [put_same] at hj
                rcases hj with rfl | hj
                · omega
                · have := hFd x hj; omega
              · rw [put_other _ _ e] at hj
                exact hFge x ((hl.hF x).2 (.inr (.inr ⟨j, hj⟩)))
          have HOK := Lib.hid hok
          have HS : Hid (sizeOk s) := .inr hsz
          clear hbay hkeep hFge hok hs hsm hl hl0 hnew h1 h17 hs0
          go_wp2_with (go_at_call 35; refine HN.out.mono ?_; rintro e w2 ⟨v, rfl, bd, Fd, rfl, hq⟩; have HQ := Lib.hid hq; clear hq; obtain ⟨⟨q0, q1⟩, q2, q3, q4⟩ := HC.out w2 HQ.out.2.1)
          rw [setCell_alloc_comm _ _ _ _ q4]
          refine ⟨⟨i + 1, by omega, by go_num, fun x hx => ?_, HE.out _ _ _ HQ.out.1 HQ.out.2.1 HQ.out.2.2⟩, by simp [intOf]; omega⟩
          rcases HT.out x hx with rfl | hx
          · exact HS.out
          · exact HOK.out x hx
        · have hnew := new_any s wr
          simp only [if_neg hsz] at hnew
          have HN := Lib.hid hnew
          have HBAD : Hid (¬ ∀ s ∈ l, sizeOk s) := fun h => by
            rcases h s hsm with h | h
            · exact hs0 h
            · exact hsz h
          have HK := Lib.hid hkeep
          clear hbay hkeep hFge hok hs hsm hnew h1 h17 hs0 hsz
          go_wp2_with (go_at_call 35; refine HN.out.mono ?_; rintro e w2 ⟨v, rfl, rfl, rfl⟩)
          go_ret2
          exact ⟨_, rfl, .inl ⟨rfl, HBAD.out, HK.out⟩⟩
    · have hie : i = l.length := by omega
      subst hie
      have HB : Hid (NewBay w w1.heap.size (By.fresh l l.length) wr) := ⟨F, hbay, hkeep, hFge⟩
      have HOK := Lib.hid hok
      clear hbay hkeep hFge hok h1 h17
      go_wp2
      go_ret2
      have hok := HOK.out
      rw [List.take_length] at hok
      exact ⟨_, rfl, .inr ⟨hok, _, rfl, HB.out⟩⟩

/-- bay.New. -/
def BNewPost (w : World) (l : List Int) (v : Value) (w' : World) : Prop :=
  (1 ≤ l.length ∧ l.length ≤ 17 ∧ (∀ s ∈ l, sizeOk s) ∧ ∃ b, v = .tuple #[.pointer (some ⟨b, 0, none⟩), .int .u16 0] ∧ NewBay w b (By.fresh l l.length) w') ∨
  ((¬ (1 ≤ l.length ∧ l.length ≤ 17) ∨ ¬ ∀ s ∈ l, sizeOk s) ∧ v = .tuple #[.pointer none, .int .u16 (if 1 ≤ l.length ∧ l.length ≤ 17 then 40 else 1)] ∧ Keep NoF w w')
theorem bnew_any (w : World) (v : Value) (l : List Int) (hv : IntsAt w v l) : Calls Try.prog 24 #[v] w (Gives (BNewPost w l)) := by
  obtain ⟨a, cap, rfl, hm, h3⟩ := hv
  by_cases h : 1 ≤ l.length ∧ l.length ≤ 17
  · obtain ⟨bb, o, rfl, hr⟩ := h3 (by rintro rfl; simp at h)
    refine (bnew_loop w bb o cap l h.1 h.2 hr).mono fun e w' hg => ?_
    obtain ⟨v, rfl, ⟨rfl, h1, h2⟩ | ⟨h1, b, rfl, h2⟩⟩ := hg
    · exact ⟨_, rfl, .inr ⟨.inr h1, by rw [if_pos h], h2⟩⟩
    · exact ⟨_, rfl, .inl ⟨h.1, h.2, h1, b, rfl, h2⟩⟩
  · refine (bnew_arg w a l.length cap (by omega)).mono fun e w' hg => ?_
    obtain ⟨rfl, rfl⟩ := hg
    exact ⟨_, rfl, .inr ⟨.inl h, by rw [if_neg h], Keep.refl _ _⟩⟩
end Go.Proofs.Ytghnbbpoaeheaaa

/- Two lists of bytes held against each other; a script as it lies in memory. -/
namespace Go.Proofs.Ytghnbbpoaeheaaa
open Go.RowKit

set_option maxRecDepth 100000 in
set_option maxHeartbeats 1000000 in
theorem same_loop (w : World) (b1 o1 c1 b2 o2 c2 : Nat) (l1 l2 : List Int) (hlen : l1.length = l2.length) (hne : l1 ≠ []) (hm : l1.length ≤ maxLen) (h1 : w.rangeAt b1 o1 (u8s l1)) (h2 : w.rangeAt b2 o2 (u8s l2)) :
    Calls Try.prog 19 #[.slice (some ⟨b1, o1, none⟩) l1.length c1, .slice (some ⟨b2, o2, none⟩) l2.length c2] w (Gives fun v w' => v = .bool (decide (l1 = l2)) ∧ Keep NoF w w') := by
  have H1 := Lib.hid h1
  have H2 := Lib.hid h2
  have HL := Lib.hid hlen
  have hpos : 0 < l1.length := List.length_pos_iff.2 hne
  have hle : (l1.length : Int) ≤ 9223372036854775807 := by unfold maxLen at hm; omega
  rw [← hlen]
  clear h1 h2 hlen hne hm
  go_enter Try.func19, Try.ntmps19
  go_wp2
  go_loopw [5] (fun t wr => ∃ i : Nat, i ≤ l1.length ∧ t = .int .i64 i ∧ l1.take i = l2.take i ∧ Keep NoF w wr) (fun t _ => l1.length - (intOf t).toNat)
  case atStart => exact ⟨0, Nat.zero_le _, rfl, by simp, Keep.refl _ _⟩
  case round =>
    obtain ⟨i, hi, rfl, htk, hkeep⟩ := hrel
    by_cases hlt : i < l1.length
    · have hlt2 : i < l2.length := HL.out ▸ hlt
      obtain ⟨x, hx⟩ : ∃ x, l1[i]? = some x := ⟨_, List.getElem?_eq_getElem hlt⟩
      obtain ⟨y, hy⟩ : ∃ y, l2[i]? = some y := ⟨_, List.getElem?_eq_getElem hlt2⟩
      have hc1 : wr.cell? ⟨b1, o1 + i, none⟩ = some (.int .u8 x) := by
        have h := H1.out i (.int .u8 x) (by simp [u8s, hx])
        rw [World.cell?_of_block (w := w) (hkeep.block b1 (World.block_lt_of_cell? w _ h) (fun h => h))]; exact h
      have hc2 : wr.cell? ⟨b2, o2 + i, none⟩ = some (.int .u8 y) := by
        have h := H2.out i (.int .u8 y) (by simp [u8s, hy])
        rw [World.cell?_of_block (w := w) (hkeep.block b2 (World.block_lt_of_cell? w _ h) (fun h => h))]; exact h
      have HK : Hid (∀ nq, Keep NoF w (wr.drewN nq)) := fun nq => hkeep.trans' (Keep.drewN _ _ _)
      by_cases hxy : x = y
      · have HT : Hid (l1.take (i + 1) = l2.take (i + 1)) := by
          show _ = _
          rw [List.take_add_one, List.take_add_one, htk, hx, hy, hxy]
        subst hxy
        clear hx hy htk hkeep hlt2
        go_wp2
        go_quiet (fail)
        go_wp2
        exact ⟨⟨i + 1, by omega, by go_num, HT.out, HK.out _⟩, by simp [intOf]; omega⟩
      · have hb : (x != y) = true := by simpa using hxy
        have HD : Hid (decide (l1 = l2) = false) := by
          show _ = _
          simp only [decide_eq_false_iff_not]
          rintro rfl
          rw [hx] at hy
          exact hxy (Option.some.inj hy)
        clear hx hy htk hkeep hlt2 hxy
        go_wp2
        go_quiet (fail)
        go_wp2
        go_ret
        exact ⟨_, rfl, by rw [HD.out]; rfl, HK.out _⟩
    · have hie : i = l1.length := by omega
      subst hie
      have HD : Hid (decide (l1 = l2) = true) := by
        show _ = _
        simp only [decide_eq_true_eq]
        rw [List.take_length, HL.out, List.take_length] at htk
        exact htk
      have HK := Lib.hid hkeep
      clear htk hkeep
      go_wp2
      go_ret
      exact ⟨_, rfl, by rw [HD.out]; rfl, HK.out⟩

theorem same_any {w : World} {v1 v2 : Value} {l1 l2 : List Int} (h1 : BytesAt w v1 l1) (h2 : BytesAt w v2 l2) : Calls Try.prog 19 #[v1, v2] w (Gives fun v w' => v = .bool (decide (l1 = l2)) ∧ Keep NoF w w') := by
  obtain ⟨a1, c1, rfl, p1, q1, r1⟩ := h1
  obtain ⟨a2, c2, rfl, p2, q2, r2⟩ := h2
  by_cases hl : l1.length = l2.length
  · by_cases hne : l1 = []
    · subst hne
      have : l2 = [] := List.length_eq_zero_iff.1 hl.symm
      subst this
      clear p1 q1 r1 p2 q2 r2 hl
      go_enter Try.func19, Try.ntmps19
      go_wp2
      refine wp_loop_rounds 1 ?_
      rw [rounds_succ]
      go_wp2
      go_ret
      exact ⟨_, rfl, by simp, Keep.refl _ _⟩
    · have hne2 : l2 ≠ [] := by rintro rfl; exact hne (List.length_eq_zero_iff.1 hl)
      obtain ⟨b1, o1, rfl, s1⟩ := r1 hne
      obtain ⟨b2, o2, rfl, s2⟩ := r2 hne2
      exact same_loop w b1 o1 c1 b2 o2 c2 l1 l2 hl hne (Nat.le_trans p1 q1) s1 s2
  · have HD : Hid (decide (l1 = l2) = false) := by
      show _ = _
      simp only [decide_eq_false_iff_not]
      rintro rfl
      exact hl rfl
    have hne : ((l1.length : Int) != (l2.length : Int)) = true := by simp; omega
    clear p1 q1 r1 p2 q2 r2
    go_enter Try.func19, Try.ntmps19
    go_wp2
    go_ret
    exact ⟨_, rfl, by rw [HD.out]; rfl, Keep.refl _ _⟩
end Go.Proofs.Ytghnbbpoaeheaaa

/- A script as it lies in memory; much, walked. -/
namespace Go.Proofs.Ytghnbbpoaeheaaa
open Go.RowKit

/-- What was there stands; only what came later may have turned. -/
def Old (W : World) : Nat → Prop := fun x => W.heap.size ≤ x
theorem Keep.cell {G : Nat → Prop} {w w' : World} (hk : Keep G w w') {a : Addr} {v : Value} (h : w.cell? a = some v) (hn : ¬ G a.block) : w'.cell? a = some v := by
  rw [World.cell?_of_block (w := w) (hk.block _ (World.block_lt_of_cell? w _ h) hn)]; exact h
theorem Keep.old {W w : World} (hk : Keep (Old W) W w) {a : Addr} {v : Value} (h : W.cell? a = some v) : w.cell? a = some v :=
  hk.cell h (fun hx => by have := World.block_lt_of_cell? W _ h; have : W.heap.size ≤ a.block := hx; omega)
theorem Keep.oldRange {W w : World} (hk : Keep (Old W) W w) {b o : Nat} {l : List Value} (h : W.rangeAt b o l) : w.rangeAt b o l := fun j u hu => hk.old (h j u hu)
theorem BytesAt.old {W w : World} {v : Value} {l : List Int} (h : BytesAt W v l) (hk : Keep (Old W) W w) : BytesAt w v l := by
  obtain ⟨a, cap, hv, h1, h2, h3⟩ := h
  exact ⟨a, cap, hv, h1, h2, fun hl => by obtain ⟨bb, o, ha, hr⟩ := h3 hl; exact ⟨bb, o, ha, hk.oldRange hr⟩⟩
theorem IntsAt.old {W w : World} {v : Value} {l : List Int} (h : IntsAt W v l) (hk : Keep (Old W) W w) : IntsAt w v l := by
  obtain ⟨a, cap, hv, h1, h3⟩ := h
  exact ⟨a, cap, hv, h1, fun hl => by obtain ⟨bb, o, ha, hr⟩ := h3 hl; exact ⟨bb, o, ha, hk.oldRange hr⟩⟩
theorem BoolsAt.old {W w : World} {v : Value} {l : List Bool} (h : BoolsAt W v l) (hk : Keep (Old W) W w) : BoolsAt w v l := by
  obtain ⟨a, cap, hv, h1, h3⟩ := h
  exact ⟨a, cap, hv, h1, fun hl => by obtain ⟨bb, o, ha, hr⟩ := h3 hl; exact ⟨bb, o, ha, hk.oldRange hr⟩⟩

/-- What no slice that came in is longer than. -/
def far : Nat := 140737488351232
def KeepsAt (w : World) (v : Value) (l : List (Value × List Bool)) : Prop :=
  ∃ a cap, v = .slice a l.length cap ∧ l.length ≤ far ∧ (l ≠ [] → ∃ bb o, a = some ⟨bb, o, none⟩ ∧ w.rangeAt bb o (l.map (·.1))) ∧ ∀ x ∈ l, BoolsAt w x.1 x.2 ∧ x.2.length ≤ far
theorem KeepsAt.old {W w : World} {v : Value} {l : List (Value × List Bool)} (h : KeepsAt W v l) (hk : Keep (Old W) W w) : KeepsAt w v l := by
  obtain ⟨a, cap, hv, h1, h3, h4⟩ := h
  exact ⟨a, cap, hv, h1, fun hl => by obtain ⟨bb, o, ha, hr⟩ := h3 hl; exact ⟨bb, o, ha, hk.oldRange hr⟩, fun x hx => ⟨(h4 x hx).1.old hk, (h4 x hx).2⟩⟩

/-- An operation of a script. -/
structure OpD where
  kind : Int
  slot : Int
  n : Int
  bv : Value
  bl : List Int
  kv : Value
  kl : List (Value × List Bool)
def inI64 (i : Int) : Prop := -9223372036854775808 ≤ i ∧ i ≤ 9223372036854775807
structure OpAt (w : World) (d : OpD) : Prop where
  kind : inI64 d.kind
  slot : inI64 d.slot
  n : inI64 d.n
  b : BytesAt w d.bv d.bl
  bl : d.bl.length ≤ far
  k : KeepsAt w d.kv d.kl
theorem OpAt.old {W w : World} {d : OpD} (h : OpAt W d) (hk : Keep (Old W) W w) : OpAt w d := ⟨h.kind, h.slot, h.n, h.b.old hk, h.bl, h.k.old hk⟩
def opCells (d : OpD) : List Value := [.int .i64 d.kind, .int .i64 d.slot, .int .i64 d.n, d.bv, d.kv]
def OpsAt (w : World) (v : Value) (l : List OpD) : Prop :=
  ∃ a cap, v = .slice a l.length cap ∧ l.length ≤ far ∧ (l ≠ [] → ∃ bb o, a = some ⟨bb, o, none⟩ ∧ ∀ i d, l[i]? = some d → w.rangeAt bb (o + i * 5) (opCells d)) ∧ ∀ d ∈ l, OpAt w d
theorem OpsAt.old {W w : World} {v : Value} {l : List OpD} (h : OpsAt W v l) (hk : Keep (Old W) W w) : OpsAt w v l := by
  obtain ⟨a, cap, hv, h1, h3, h4⟩ := h
  exact ⟨a, cap, hv, h1, fun hl => by obtain ⟨bb, o, ha, hr⟩ := h3 hl; exact ⟨bb, o, ha, fun i d hd => hk.oldRange (hr i d hd)⟩, fun x hx => (h4 x hx).old hk⟩
theorem Keep.toOld {w w' : World} {G : Nat → Prop} {W : World} (h : Keep G w w') (hG : ∀ x, x < w.heap.size → G x → W.heap.size ≤ x) : Keep (Old W) w w' := h.mono fun x hx hg => hG x hx hg
theorem Keep.ofNoF {W w w' : World} (hk : Keep (Old W) W w) (h : Keep NoF w w') : Keep (Old W) W w' := hk.trans' (h.mono fun _ _ h => h.elim)

def MuchPost (W : World) (n : Nat) (v : Value) (w' : World) : Prop := ∃ c, v = .bool c ∧ Keep NoF W w' ∧ (c = false → n ≤ 100000)
set_option maxRecDepth 100000 in
set_option maxHeartbeats 4000000 in
theorem much_any {W : World} {sv ov : Value} {sizes : List Int} {ops : List OpD} (hs : IntsAt W sv sizes) (hsl : sizes.length ≤ far) (hsi : ∀ s ∈ sizes, inI64 s) (ho : OpsAt W ov ops) :
    Calls Try.prog 23 #[sv, ov] W (Gives (MuchPost W (ops.length + sizes.length))) := by
  obtain ⟨sa, sc, rfl, _, hsr⟩ := hs
  obtain ⟨oa, oc, rfl, hol, hor, hop⟩ := ho
  unfold far at hsl hol
  have HSR := Lib.hid hsr
  have HSI := Lib.hid hsi
  have HOR := Lib.hid hor
  have HOP := Lib.hid hop
  clear hsr hor hop hsi
  go_enter Try.func23, Try.ntmps23
  go_wp2
  go_loopw [6, 7] (fun m t wr => ∃ (i : Nat) (mm : Int), i ≤ sizes.length ∧ t = .int .i64 i ∧ m = .int .i64 mm ∧ 0 ≤ mm ∧ mm ≤ 8192 ∧ W = wr) (fun _ t _ => sizes.length - (intOf t).toNat)
  case atStart => exact ⟨0, 0, Nat.zero_le _, rfl, rfl, by omega, by omega, rfl⟩
  case round =>
    obtain ⟨i, mm, hi, rfl, rfl, h0, h1, rfl⟩ := hrel
    by_cases hlt : i < sizes.length
    · obtain ⟨x, hx⟩ : ∃ x, sizes[i]? = some x := ⟨_, List.getElem?_eq_getElem hlt⟩
      obtain ⟨bb, o, rfl, hr⟩ := HSR.out (by rintro rfl; simp at hlt)
      have hc1 : W.cell? ⟨bb, o + i, none⟩ = some (.int .i64 x) := hr i (.int .i64 x) (by simp [ints, hx])
      obtain ⟨hx1, hx2⟩ := HSI.out x (List.mem_of_getElem? hx)
      clear hr hx
      by_cases hg : i < 64
      · go_wp2
        refine ⟨⟨i + 1, _, by omega, by go_num, rfl, ?_, ?_, trivial⟩, by simp [intOf]; omega⟩
        · split <;> split <;> omega
        · split <;> split <;> omega
      · go_wp2
        go_loopw [5, 8] (fun m t wr => ∃ (i : Nat) (n : Int), i ≤ ops.length ∧ t = .int .i64 i ∧ m = .int .i64 n ∧ (ops.length + sizes.length : Int) ≤ n ∧ n ≤ 1000000000000000 ∧ Keep NoF W wr) (fun _ t _ => ops.length - (intOf t).toNat)
        case atStart => exact ⟨0, _, Nat.zero_le _, rfl, rfl, Int.le_refl _, by omega, Keep.refl _ _⟩
        case round =>
          obtain ⟨i2, n, hi2, rfl, rfl, hn0, hn1, hkeep⟩ := hrel
          by_cases hlt2 : i2 < ops.length
          · by_cases hg2 : n ≤ 100000
            · obtain ⟨d, hd⟩ : ∃ d, ops[i2]? = some d := ⟨_, List.getElem?_eq_getElem hlt2⟩
              obtain ⟨bb, o, rfl, hr⟩ := HOR.out (by rintro rfl; simp at hlt2)
              have hop := HOP.out d (List.mem_of_getElem? hd)
              have hr := hr i2 d hd
              obtain ⟨ba, bcap, hbv, -, -, -⟩ := hop.b
              obtain ⟨ka, kcap, hkv, hkf, hkr, hkk⟩ := hop.k
              have hbf := hop.bl
              unfold far at hkf hbf
              have hcK : Hid (∀ w', Keep NoF W w' → w'.cell? ⟨bb, o + i2 * 5, none⟩ = some (.int .i64 d.kind) ∧ w'.cell? ⟨bb, o + i2 * 5 + 3, none⟩ = some (.slice ba d.bl.length bcap) ∧ w'.cell? ⟨bb, o + i2 * 5 + 4, none⟩ = some (.slice ka d.kl.length kcap)) := fun w' hk => by
                refine ⟨hk.cell (hr 0 _ rfl) (fun h => h), ?_, ?_⟩
                · rw [← hbv]; exact hk.cell (hr 3 _ rfl) (fun h => h)
                · rw [← hkv]; exact hk.cell (hr 4 _ rfl) (fun h => h)
              obtain ⟨q0, q3, q4⟩ := hcK.out _ hkeep
              clear hr hop hd
              go_wp2
              go_quiet (fail)
              obtain ⟨q0, q3, q4⟩ := hcK.out _ (hkeep.trans' (Keep.drewN _ _ nq))
              have HK : Hid (Keep NoF W (wr.drewN nq)) := hkeep.trans' (Keep.drewN _ _ nq)
              have HKR := Lib.hid hkr
              clear hkr
              cases hb12 : (d.kind == 12)
              all_goals
                go_wp2
                go_loopw [5, 9] (fun m t wr => ∃ (j : Nat) (n : Int), j ≤ d.kl.length ∧ t = .int .i64 j ∧ m = .int .i64 n ∧ (ops.length + sizes.length : Int) ≤ n ∧ n ≤ 1000000000000000 ∧ Keep NoF W wr) (fun _ t _ => d.kl.length - (intOf t).toNat)
                case atStart => exact ⟨0, _, Nat.zero_le _, rfl, rfl, by omega, by omega, HK.out⟩
                case round =>
                  obtain ⟨j, n3, hj, rfl, rfl, hm0, hm1, hkeep3⟩ := hrel
                  obtain ⟨q0, q3, q4⟩ := hcK.out _ hkeep3
                  by_cases hlt3 : j < d.kl.length
                  · by_cases hg3 : n3 ≤ 100000
                    · obtain ⟨x3, hx3⟩ : ∃ x, d.kl[j]? = some x := ⟨_, List.getElem?_eq_getElem hlt3⟩
                      obtain ⟨kb, ko, rfl, hkr⟩ := HKR.out (by rintro h; rw [h] at hlt3; simp at hlt3)
                      obtain ⟨⟨xa, xc, hxv, -, -⟩, hxl⟩ := hkk x3 (List.mem_of_getElem? hx3)
                      unfold far at hxl
                      have hc3 : wr.cell? ⟨kb, ko + j, none⟩ = some (.slice xa x3.2.length xc) := by
                        rw [← hxv]; exact hkeep3.cell (hkr j x3.1 (by simp [hx3])) (fun h => h)
                      clear hkr hx3
                      go_wp2
                      exact ⟨⟨j + 1, _, by omega, by go_num, rfl, by omega, by omega, hkeep3⟩, by simp [intOf]; omega⟩
                    · go_wp2
                      exact ⟨⟨i2 + 1, _, by omega, by go_num, rfl, by omega, by omega, hkeep3⟩, by simp [intOf]; omega⟩
                  · by_cases hg3 : n3 ≤ 100000
                    · go_wp2
                      exact ⟨⟨i2 + 1, _, by omega, by go_num, rfl, by omega, by omega, hkeep3⟩, by simp [intOf]; omega⟩
                    · go_wp2
                      exact ⟨⟨i2 + 1, _, by omega, by go_num, rfl, by omega, by omega, hkeep3⟩, by simp [intOf]; omega⟩
            · clear hn1
              go_wp2
              go_ret
              exact ⟨_, rfl, true, rfl, hkeep, fun h => by cases h⟩
          · obtain rfl : i2 = ops.length := by omega
            by_cases hg2 : n ≤ 100000
            · go_wp2
              go_ret
              exact ⟨_, rfl, decide (100000 < n), rfl, hkeep, fun h => by simp at h; omega⟩
            · go_wp2
              go_ret
              exact ⟨_, rfl, true, rfl, hkeep, fun h => by cases h⟩
    · obtain rfl : i = sizes.length := by omega
      go_wp2
      go_loopw [5, 8] (fun m t wr => ∃ (i : Nat) (n : Int), i ≤ ops.length ∧ t = .int .i64 i ∧ m = .int .i64 n ∧ (ops.length + sizes.length : Int) ≤ n ∧ n ≤ 1000000000000000 ∧ Keep NoF W wr) (fun _ t _ => ops.length - (intOf t).toNat)
      case atStart => exact ⟨0, _, Nat.zero_le _, rfl, rfl, Int.le_refl _, by omega, Keep.refl _ _⟩
      case round =>
        obtain ⟨i2, n, hi2, rfl, rfl, hn0, hn1, hkeep⟩ := hrel
        by_cases hlt2 : i2 < ops.length
        · by_cases hg2 : n ≤ 100000
          · obtain ⟨d, hd⟩ : ∃ d, ops[i2]? = some d := ⟨_, List.getElem?_eq_getElem hlt2⟩
            obtain ⟨bb, o, rfl, hr⟩ := HOR.out (by rintro rfl; simp at hlt2)
            have hop := HOP.out d (List.mem_of_getElem? hd)
            have hr := hr i2 d hd
            obtain ⟨ba, bcap, hbv, -, -, -⟩ := hop.b
            obtain ⟨ka, kcap, hkv, hkf, hkr, hkk⟩ := hop.k
            have hbf := hop.bl
            unfold far at hkf hbf
            have hcK : Hid (∀ w', Keep NoF W w' → w'.cell? ⟨bb, o + i2 * 5, none⟩ = some (.int .i64 d.kind) ∧ w'.cell? ⟨bb, o + i2 * 5 + 3, none⟩ = some (.slice ba d.bl.length bcap) ∧ w'.cell? ⟨bb, o + i2 * 5 + 4, none⟩ = some (.slice ka d.kl.length kcap)) := fun w' hk => by
              refine ⟨hk.cell (hr 0 _ rfl) (fun h => h), ?_, ?_⟩
              · rw [← hbv]; exact hk.cell (hr 3 _ rfl) (fun h => h)
              · rw [← hkv]; exact hk.cell (hr 4 _ rfl) (fun h => h)
            obtain ⟨q0, q3, q4⟩ := hcK.out _ hkeep
            clear hr hop hd
            go_wp2
            go_quiet (fail)
            obtain ⟨q0, q3, q4⟩ := hcK.out _ (hkeep.trans' (Keep.drewN _ _ nq))
            have HK : Hid (Keep NoF W (wr.drewN nq)) := hkeep.trans' (Keep.drewN _ _ nq)
            have HKR := Lib.hid hkr
            clear hkr
            cases hb12 : (d.kind == 12)
            all_goals
              go_wp2
              go_loopw [5, 9] (fun m t wr => ∃ (j : Nat) (n : Int), j ≤ d.kl.length ∧ t = .int .i64 j ∧ m = .int .i64 n ∧ (ops.length + sizes.length : Int) ≤ n ∧ n ≤ 1000000000000000 ∧ Keep NoF W wr) (fun _ t _ => d.kl.length - (intOf t).toNat)
              case atStart => exact ⟨0, _, Nat.zero_le _, rfl, rfl, by omega, by omega, HK.out⟩
              case round =>
                obtain ⟨j, n3, hj, rfl, rfl, hm0, hm1, hkeep3⟩ := hrel
                obtain ⟨q0, q3, q4⟩ := hcK.out _ hkeep3
                by_cases hlt3 : j < d.kl.length
                · by_cases hg3 : n3 ≤ 100000
                  · obtain ⟨x3, hx3⟩ : ∃ x, d.kl[j]? = some x := ⟨_, List.getElem?_eq_getElem hlt3⟩
                    obtain ⟨kb, ko, rfl, hkr⟩ := HKR.out (by rintro h; rw [h] at hlt3; simp at hlt3)
                    obtain ⟨⟨xa, xc, hxv, -, -⟩, hxl⟩ := hkk x3 (List.mem_of_getElem? hx3)
                    unfold far at hxl
                    have hc3 : wr.cell? ⟨kb, ko + j, none⟩ = some (.slice xa x3.2.length xc) := by
                      rw [← hxv]; exact hkeep3.cell (hkr j x3.1 (by simp [hx3])) (fun h => h)
                    clear hkr hx3
                    go_wp2
                    exact ⟨⟨j + 1, _, by omega, by go_num, rfl, by omega, by omega, hkeep3⟩, by simp [intOf]; omega⟩
                  · go_wp2
                    exact ⟨⟨i2 + 1, _, by omega, by go_num, rfl, by omega, by omega, hkeep3⟩, by simp [intOf]; omega⟩
                · by_cases hg3 : n3 ≤ 100000
                  · go_wp2
                    exact ⟨⟨i2 + 1, _, by omega, by go_num, rfl, by omega, by omega, hkeep3⟩, by simp [intOf]; omega⟩
                  · go_wp2
                    exact ⟨⟨i2 + 1, _, by omega, by go_num, rfl, by omega, by omega, hkeep3⟩, by simp [intOf]; omega⟩
          · clear hn1
            go_wp2
            go_ret
            exact ⟨_, rfl, true, rfl, hkeep, fun h => by cases h⟩
        · obtain rfl : i2 = ops.length := by omega
          by_cases hg2 : n ≤ 100000
          · go_wp2
            go_ret
            exact ⟨_, rfl, decide (100000 < n), rfl, hkeep, fun h => by simp at h; omega⟩
          · go_wp2
            go_ret
            exact ⟨_, rfl, true, rfl, hkeep, fun h => by cases h⟩
end Go.Proofs.Ytghnbbpoaeheaaa
