/- The bay's Cut, walked, where no disk is coming. -/
import Derived.Test.YtghnbbpoaeheaaaPair
namespace Go.Proofs.Ytghnbbpoaeheaaa
open Go.RowKit

def keepsFor (kl : List (Value × List Bool)) (i : Nat) : List Bool := match kl[i]? with | some x => x.2 | none => []
def By.crashAt (B : By) (kl : List (Value × List Bool)) (i : Nat) : By := match B.dev (i * 3) with | none => B | some d => B.setDev (i * 3) (some { d with disk := d.disk.crash (keepsFor kl i) })
def By.cutTo (B : By) (kl : List (Value × List Bool)) : Nat → By
  | 0 => B
  | i + 1 => (B.cutTo kl i).crashAt kl i
def By.cut (B : By) (kl : List (Value × List Bool)) : By := { B.cutTo kl B.n with dark := false, trip := -1 }

theorem crashAt_head (B : By) (kl : List (Value × List Bool)) (i : Nat) : (B.crashAt kl i).n = B.n ∧ (B.crashAt kl i).cr = B.cr ∧ (B.crashAt kl i).cw = B.cw ∧ (B.crashAt kl i).cf = B.cf := by
  unfold By.crashAt; split <;> exact ⟨rfl, rfl, rfl, rfl⟩
theorem cutTo_head (B : By) (kl : List (Value × List Bool)) : ∀ i, (B.cutTo kl i).n = B.n ∧ (B.cutTo kl i).cr = B.cr ∧ (B.cutTo kl i).cw = B.cw ∧ (B.cutTo kl i).cf = B.cf
  | 0 => ⟨rfl, rfl, rfl, rfl⟩
  | i + 1 => by
    obtain ⟨h1, h2, h3, h4⟩ := crashAt_head (B.cutTo kl i) kl i
    obtain ⟨k1, k2, k3, k4⟩ := cutTo_head B kl i
    rw [By.cutTo]
    exact ⟨h1.trans k1, h2.trans k2, h3.trans k3, h4.trans k4⟩
def crashed (kl : List (Value × List Bool)) (i : Nat) (d : Dev) : Dev := { d with disk := d.disk.crash (keepsFor kl i) }
theorem cutTo_dev (B : By) (kl : List (Value × List Bool)) : ∀ i j, (B.cutTo kl i).dev j = if j % 3 = 0 ∧ j / 3 < i then (B.dev j).map (crashed kl (j / 3)) else B.dev j
  | 0, j => by simp [By.cutTo]
  | i + 1, j => by
    rw [By.cutTo]
    have ih := cutTo_dev B kl i
    have h3 : (B.cutTo kl i).dev (i * 3) = B.dev (i * 3) := by rw [ih, if_neg (by omega)]
    unfold By.crashAt
    by_cases hj : j = i * 3
    · subst hj
      rw [if_pos ⟨by omega, by omega⟩, show i * 3 / 3 = i by omega, ← h3]
      split
      · rename_i h; rw [h]; rfl
      · rename_i d h; rw [h]; simp [By.setDev, crashed]
    · have hE : (match (B.cutTo kl i).dev (i * 3) with | none => B.cutTo kl i | some d => (B.cutTo kl i).setDev (i * 3) (some { d with disk := d.disk.crash (keepsFor kl i) })).dev j = (B.cutTo kl i).dev j := by
        split
        · rfl
        · simp [By.setDev, put_other _ _ hj]
      rw [hE, ih]
      by_cases h : j % 3 = 0 ∧ j / 3 < i
      · rw [if_pos h, if_pos ⟨h.1, by omega⟩]
      · rw [if_neg h, if_neg (by omega)]
theorem Small.crashAt {B : By} {m : Int} (h : B.Small m) (hm : 0 ≤ m) (kl : List (Value × List Bool)) (i : Nat) : (B.crashAt kl i).Small m := by
  unfold By.crashAt
  split
  · exact h
  · exact Small.setDev h fun e he => by obtain rfl := (Option.some.inj he).symm; simpa [Dk.crash, Dk.settle] using hm
theorem Small.cutTo {B : By} {m : Int} (h : B.Small m) (hm : 0 ≤ m) (kl : List (Value × List Bool)) : ∀ i, (B.cutTo kl i).Small m
  | 0 => h
  | i + 1 => Small.crashAt (Small.cutTo h hm kl i) hm kl i
theorem Small.cut {B : By} {m : Int} (h : B.Small m) (hm : 0 ≤ m) (kl : List (Value × List Bool)) : (B.cut kl).Small m := by
  have := Small.cutTo h hm kl B.n
  exact ⟨this.cr, this.cw, this.cf, this.cl⟩

theorem KeepsAt.get {W w : World} {kv : Value} {kl : List (Value × List Bool)} (h : KeepsAt W kv kl) (hk : Keep (Old W) W w) {i : Nat} (hi : i < kl.length) :
    ∃ bb o cap a c, kv = .slice (some ⟨bb, o, none⟩) kl.length cap ∧ w.cell? ⟨bb, o + i, none⟩ = some (.slice a (keepsFor kl i).length c) ∧ BoolsAt w (.slice a (keepsFor kl i).length c) (keepsFor kl i) ∧
      ∀ a' n c', Value.slice a (keepsFor kl i).length c = .slice (some a') n c' → keepsFor kl i ≠ [] → a'.block < W.heap.size := by
  obtain ⟨x, cap, hv, _, h3, h4⟩ := h
  obtain ⟨bb, o, rfl, hr⟩ := h3 (by rintro rfl; simp at hi)
  have e : keepsFor kl i = kl[i].2 := by unfold keepsFor; rw [List.getElem?_eq_getElem hi]
  have hb := (h4 kl[i] (List.getElem_mem hi)).1
  have hc := hk.old (hr i kl[i].1 (by simp [hi]))
  obtain ⟨a, c, hv2, h5, h6⟩ := id hb
  rw [hv2] at hc
  rw [e]
  refine ⟨bb, o, cap, a, c, hv, hc, by rw [← hv2]; exact hb.old hk, fun a' n c' he hne => ?_⟩
  obtain ⟨b2, o2, rfl, hr2⟩ := h6 hne
  simp at he
  obtain ⟨rfl, _⟩ := he
  obtain ⟨y, hy⟩ := List.exists_mem_of_ne_nil _ hne
  obtain ⟨j, hj, rfl⟩ := List.mem_iff_getElem.1 hy
  exact World.block_lt_of_cell? W ⟨b2, o2 + j, none⟩ (hr2 j (.bool kl[i].2[j]) (by simp [hj]))

set_option maxRecDepth 100000 in
set_option maxHeartbeats 2000000 in
theorem cut_any {W w : World} {b : Nat} {B : By} {F : Nat → Prop} (h : BayAt w b B F) (hFW : ∀ x, F x → W.heap.size ≤ x) (hWw : Keep (Old W) W w) {kv : Value} {kl : List (Value × List Bool)} (hk : KeepsAt W kv kl) (hs : B.Small 1000000) (hnc : ∀ j, j % 3 = 2 → B.dev j = none) :
    Calls Try.prog 33 #[.pointer (some ⟨b, 0, none⟩), kv] w (Gives fun v w' => v = .tuple #[] ∧ BayPost w b (B.cut kl) F w') := by
  have hkf : kl.length ≤ far := by obtain ⟨_, _, _, h, _⟩ := hk; exact h
  unfold far at hkf
  obtain ⟨ka, kc, rfl, -, -⟩ := id hk
  have hn := h.ok.le
  have HK := Lib.hid hk
  have HS : Hid (∀ i, (B.cutTo kl i).Small 1000000) := fun i => Small.cutTo hs (by omega) kl i
  have H0 : Hid (BayPost w b (B.cutTo kl 0) F w) := BayPost.same h
  obtain ⟨bs, c0, -⟩ := h.head
  have HF : Hid (∀ x, F x → W.heap.size ≤ x) := hFW
  have HW := Lib.hid hWw
  have HNC : Hid (∀ i j, j % 3 = 2 → (B.cutTo kl i).dev j = none) := fun i j hj => by rw [cutTo_dev, if_neg (by omega)]; exact hnc j hj
  have HH : Hid (∀ i, (B.cutTo kl i).n = B.n) := fun i => (cutTo_head B kl i).1
  have HC : Hid (∀ wr, BayPost w b (B.cutTo kl B.n) F wr → ∃ d t, (wr.cell? ⟨b, 1, none⟩ = some (.bool d) ∧ wr.cell? ⟨b, 2, none⟩ = some (.int .i64 t)) ∧ wr.frozen? ⟨b, 1, none⟩ = false ∧ wr.frozen? ⟨b, 2, none⟩ = false ∧ b < wr.heap.size ∧ BayPost w b (B.cut kl) F ((wr.setCell ⟨b, 1, none⟩ (.bool false)).setCell ⟨b, 2, none⟩ (.int .i64 (-1)))) := fun wr hp => by
    obtain ⟨F1, ⟨bs1, ptr1, Fs1, hl⟩, hk1, hF1⟩ := hp
    have hd := hl.head
    have hk2 : Keep (· = b) wr ((wr.setCell ⟨b, 1, none⟩ (.bool false)).setCell ⟨b, 2, none⟩ (.int .i64 (-1))) := (Keep.setCell (F := (· = b)) wr ⟨b, 1, none⟩ (.bool false) rfl).trans' (Keep.setCell (F := (· = b)) _ ⟨b, 2, none⟩ (.int .i64 (-1)) rfl)
    have hb2 := heap_setCell_same _ b 2 _ _ (.int .i64 (-1)) (heap_setCell_same wr b 1 _ _ (.bool false) hl.hb)
    have hl2 : BayLies _ b (B.cut kl) F1 bs1 ptr1 Fs1 := hl.rehead (B' := B.cut kl) hk2 rfl rfl ⟨by show (-1 : Int) ≤ -1; decide, by show (-1 : Int) ≤ 9223372036854775807; decide⟩ (by
      show _ = some (Obj.cells #[.slice (some ⟨bs1, 0, none⟩) (B.cutTo kl B.n).n (B.cutTo kl B.n).n, .bool false, .int .i64 (-1), .int .i64 (B.cutTo kl B.n).cr, .int .i64 (B.cutTo kl B.n).cw, .int .i64 (B.cutTo kl B.n).cf] 130 (0, 0))
      simpa using hb2)
    have hb1 : F1 b := (hl.hF b).2 (.inl rfl)
    have hbF : F b ∨ w.heap.size ≤ b := hF1 b hb1
    have hblt : b < w.heap.size := World.block_lt_of_cell? w _ c0
    exact ⟨_, _, ⟨hd.2.1, hd.2.2.1⟩, free_at hl.hb 1, free_at hl.hb 2, lt_of_heap hl.hb, F1, ⟨bs1, ptr1, Fs1, hl2⟩, hk1.trans hk2 (fun x hx e => by have : x = b := e; subst this; exact hbF.resolve_right (by omega)), hF1⟩
  clear hk hs hnc h hFW hWw
  go_enter Try.func33, Try.ntmps33
  go_wp2
  go_loopw [12] (fun t wr => ∃ i : Nat, i ≤ B.n ∧ t = .int .i64 i ∧ BayPost w b (B.cutTo kl i) F wr) (fun t _ => B.n - (intOf t).toNat)
  case atStart => exact ⟨0, Nat.zero_le _, rfl, H0.out⟩
  case round =>
    obtain ⟨i, hi, rfl, hp⟩ := hrel
    by_cases hlt : i < B.n
    · obtain ⟨F1, ⟨bs1, ptr1, Fs1, hl⟩, hk1, hF1⟩ := id hp
      have hn1 := HH.out i
      have hWwr : Keep (Old W) W wr := HW.out.trans' (hk1.mono fun x _ hx => HF.out x hx)
      have hF1W : ∀ x, F1 x → W.heap.size ≤ x := fun x hx => by
        rcases hF1 x hx with hx | hx
        · exact HF.out x hx
        · have := HW.out.size; omega
      obtain ⟨q0, -⟩ := hl.head
      rw [hn1] at q0
      have q1 := hl.slot (j := i * 3) (by rw [hn1]; omega)
      have q3 := hl.slot (j := i * 3 + 2) (by rw [hn1]; omega)
      have e3 : ptr1 (i * 3 + 2) = .pointer none := by
        have := hl.dev (i * 3 + 2)
        rw [HNC.out i (i * 3 + 2) (by omega)] at this
        exact this.none_form
      rw [e3] at q3
      have hd := hl.dev (i * 3)
      cases hdv : (B.cutTo kl i).dev (i * 3) with
      | none =>
        rw [hdv] at hd
        rw [hd.none_form] at q1
        have HP : Hid (BayPost w b (B.cutTo kl (i + 1)) F wr) := by
          show BayPost _ _ _ _ _
          rw [By.cutTo, By.crashAt, hdv]
          exact hp
        clear hl hk1 hF1 hWwr hF1W e3 hd hdv hp hn1
        go_wp2
        exact ⟨⟨i + 1, by omega, by go_num, HP.out⟩, by simp [intOf]; omega⟩
      | some d =>
        rw [hdv] at hd
        obtain ⟨bv, bd, Fd, hpv, hh, hdk, hnv, hFd⟩ := id hd
        rw [hpv] at q1
        have q2 := cell_at hh 0 rfl
        have hcl : d.disk.cache.length ≤ 1000000 := by have := (HS.out i).cl _ d hdv; omega
        have HP : Hid (∀ w', DiskPost wr bd (d.disk.crash (keepsFor kl i)) Fd w' → BayPost w b (B.cutTo kl (i + 1)) F w' ∧ w'.cell? ⟨bs1, i * 3 + 2, none⟩ = some (.pointer none)) := fun w' hq => by
          have hdp := DevPost.disk hh hnv hFd hq NoF
          rw [← hpv] at hdp
          have hpost := hl.post (by rw [hn1]; omega) hdp (hl.ok.left _ d hdv)
          obtain ⟨F2, g1, g2, g3⟩ := hpost
          refine ⟨⟨F2, ?_, hk1.trans g2 (fun x hx hf => (hF1 x hf).resolve_right (by omega)), fun x hx => ?_⟩, ?_⟩
          · rw [By.cutTo, By.crashAt, hdv]; exact g1
          · rcases g3 x hx with hx | hx
            · exact hF1 x hx
            · exact .inr (Nat.le_trans hk1.size hx)
          · obtain ⟨Fx, _, r2, _⟩ := hq
            exact r2.cell q3 (fun hx => hl.owns (i * 3) ((hFd _).2 (.inr hx)))
        by_cases hik : i < kl.length
        · obtain ⟨kb, ko, kcap, a, c, hkv, hcell, hbools, hblk⟩ := HK.out.get hWwr hik
          simp only [Value.slice.injEq, true_and] at hkv
          obtain ⟨rfl, rfl⟩ := hkv
          have HCR := Lib.hid (crash_any hdk (.slice a (keepsFor kl i).length c) (keepsFor kl i) hbools (fun a' n c' he hne hf => by
            have h1 := hblk a' n c' he hne
            have h2 := hF1W _ ((hl.hF _).2 (.inr (.inr ⟨i * 3, (hFd _).2 (.inr hf)⟩)))
            omega) hcl)
          clear hl hk1 hF1 hWwr hF1W e3 hd hdv hp hn1 hh hdk hnv hFd hbools hblk hpv hcl
          go_wp2_with (go_at_call 39; go_must (refine HCR.out.mono ?_); rintro e w' ⟨v, rfl, rfl, hv⟩; obtain ⟨hP1, q4⟩ := HP.out _ hv; have HP1 := Lib.hid hP1; clear hv hP1)
          exact ⟨⟨i + 1, by omega, by go_num, HP1.out⟩, by simp [intOf]; omega⟩
        · have e : keepsFor kl i = [] := by unfold keepsFor; rw [List.getElem?_eq_none (by omega)]
          have HCR := Lib.hid (crash_any hdk (.slice none 0 0) [] (BoolsAt.nil _) (fun a' n c' he => by simp at he) hcl)
          rw [e] at HP
          clear hl hk1 hF1 hWwr hF1W e3 hd hdv hp hn1 hh hdk hnv hFd hpv hcl e
          go_wp2_with (go_at_call 39; go_must (refine HCR.out.mono ?_); rintro e w' ⟨v, rfl, rfl, hv⟩; obtain ⟨hP1, q4⟩ := HP.out _ hv; have HP1 := Lib.hid hP1; clear hv hP1)
          exact ⟨⟨i + 1, by omega, by go_num, HP1.out⟩, by simp [intOf]; omega⟩
    · obtain rfl : i = B.n := by omega
      obtain ⟨dd, tt, ⟨r1, r2⟩, r3, r4, r5, r6⟩ := HC.out _ hp
      have HR := Lib.hid r6
      clear hp r6
      go_wp2
      go_end0
      exact ⟨_, rfl, rfl, HR.out⟩
end Go.Proofs.Ytghnbbpoaeheaaa
