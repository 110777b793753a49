/- Arguments opened: ints, bytes, keeps, scripts as the walks ask them. -/
import Derived.Test.YtghnbbpoaeheaaaDL8
import Derived.Test.YtghnbbpoaeheaaaDL21
import Derived.Test.YtghnbbpoaeheaaaRows
import Derived.ProofKit
import Derived.SizedLaws
import Derived.Deep.Slices
import Derived.Deep.Fields
import Derived.Carry
import Derived.IntWalk
namespace Go.Proofs.Ytghnbbpoaeheaaa
open Go.RowKit Go.ChangeShapes Go.WideShapes Go.Deep

/-- No slice in a reading takes more bytes than the reach. -/
def Fits {H : Type} (t : TypeId) (d : DataW H) : Prop := ∀ n ∈ d.weights Try.prog t, n ≤ reachBytes
theorem weightsAll_mem {H : Type} {e : TypeId} : ∀ {ds : List (DataW H)} {d : DataW H}, d ∈ ds → ∀ n ∈ d.weights Try.prog e, n ∈ DataW.weightsAll Try.prog e ds
  | x :: r, d, hd, n, hn => by
    simp only [DataW.weightsAll, List.mem_append]
    rcases List.mem_cons.1 hd with rfl | hd
    · exact .inl hn
    · exact .inr (weightsAll_mem hd n hn)
theorem Fits.slice {H : Type} {t e : TypeId} {els sp : List (DataW H)} (h : Fits t (.slice els sp)) (ht : Try.prog.underlying t = some (.slice e)) : (els.length + sp.length) * Try.prog.bytesOf e ≤ reachBytes ∧ ∀ d, (d ∈ els ∨ d ∈ sp) → Fits e d := by
  unfold Fits at h
  simp only [DataW.weights, ht, List.mem_cons, List.mem_append] at h
  exact ⟨h _ (.inl rfl), fun d hd n hn => h n (.inr (hd.imp (fun hd => weightsAll_mem hd n hn) (fun hd => weightsAll_mem hd n hn)))⟩
theorem Fits.field {H : Type} {t : TypeId} {fs : Array Field} {ds : List (DataW H)} (h : Fits t (.agg ds)) (ht : Try.prog.underlying t = some (.struct fs)) {j : Nat} {f : Field} {d : DataW H} (hf : fs[j]? = some f) (hd : ds[j]? = some d) : Fits f.type d := by
  intro n hn
  refine h n ?_
  simp only [DataW.weights, ht]
  exact DataW.weights_mem_each (j := j) (by simp [hf]) hd n hn

theorem by5 : Try.prog.bytesOf 5 = 1 := by kernel_rfl
theorem by4 : Try.prog.bytesOf 4 = 1 := by kernel_rfl
theorem by3 : Try.prog.bytesOf 3 = 8 := by kernel_rfl
theorem by57 : Try.prog.bytesOf 57 = 24 := by kernel_rfl
theorem by69 : 1 ≤ Try.prog.bytesOf 69 := of_decide_eq_true (by kernel_rfl)
theorem c5 : Try.prog.cellsOf 5 = 1 := by kernel_rfl
theorem c4 : Try.prog.cellsOf 4 = 1 := by kernel_rfl
theorem c3 : Try.prog.cellsOf 3 = 1 := by kernel_rfl
theorem c57 : Try.prog.cellsOf 57 = 1 := by kernel_rfl
theorem c69 : Try.prog.cellsOf 69 = 5 := by kernel_rfl

section
variable {H : Type} {enc : TypeId × Value → H} {W : World}
theorem plain_addr {a : Addr} {v : Value} (h : W.cell? a = some v) : a = ⟨a.block, a.off, none⟩ := by
  have := World.cell?_spot h
  obtain ⟨b, o, s⟩ := a
  simp only at this
  subst this
  rfl
theorem add_off (b o i : Nat) : (⟨b, o, none⟩ : Addr).add i = ⟨b, o + i, none⟩ := by
  unfold Addr.add; split
  · rename_i h; simp [h]
  · rfl

theorem open_bytes {fuel : Nat} {v : Value} {y : DataW H × List MemPlace} (h : DataW.trod enc Try.prog W 0 (fun _ => true) true fuel 22 [v] = some y) (hf : Fits 22 y.1) : ∃ l, BytesAt W v l ∧ l.length ≤ far := by
  rcases open_ints Try.underlying22 Try.underlying5 c5 h with ⟨hcs, hx⟩ | ⟨a, len, cap, zs, hcs, _, hl, hm, hz, hx, hcell, hwz⟩
  · obtain rfl : v = .slice none 0 0 := by simpa using hcs
    exact ⟨[], ⟨none, 0, rfl, Nat.le_refl _, by simp [maxLen], fun h => absurd rfl h⟩, Nat.zero_le _⟩
  · obtain rfl : v = .slice (some a) len cap := by simpa using hcs
    simp only [if_true] at hz
    subst hx
    have hw := (hf.slice Try.underlying22).1
    rw [by5] at hw
    simp only [lits, List.length_map, List.length_take, List.length_drop, reachBytes] at hw
    have hlen : (zs.take len).length = len := by simp; omega
    refine ⟨zs.take len, ⟨some a, cap, by rw [hlen], by rw [hlen]; exact hl, hm, fun hne => ?_⟩, by rw [hlen]; unfold far; omega⟩
    have h0 : 0 < len := by rw [← hlen]; exact List.length_pos_iff.2 hne
    have ha := plain_addr (a := a) (by simpa [Addr.add] using hcell 0 (by omega))
    refine ⟨a.block, a.off, by rw [← ha], fun j u hu => ?_⟩
    have hj : j < len := by
      have := (List.getElem?_eq_some_iff.1 hu).1
      simp [u8s] at this; omega
    have hc := hcell j (by omega)
    rw [ha, add_off] at hc
    rw [hc, ← hu]
    simp only [u8s, List.getElem?_map]
    rw [List.getElem?_take, if_pos hj, List.getElem?_eq_getElem (show j < zs.length by omega)]
    simp [List.getD, show j < zs.length by omega]
theorem open_ints76 {fuel : Nat} {v : Value} {y : DataW H × List MemPlace} (h : DataW.trod enc Try.prog W 0 (fun _ => true) true fuel 76 [v] = some y) (hf : Fits 76 y.1) : ∃ l, IntsAt W v l ∧ l.length ≤ far ∧ ∀ s ∈ l, inI64 s := by
  rcases open_ints Try.underlying76 Try.underlying3 c3 h with ⟨hcs, hx⟩ | ⟨a, len, cap, zs, hcs, _, hl, hm, hz, hx, hcell, hwz⟩
  · obtain rfl : v = .slice none 0 0 := by simpa using hcs
    exact ⟨[], ⟨none, 0, rfl, by simp [maxLen], fun h => absurd rfl h⟩, Nat.zero_le _, by simp⟩
  · obtain rfl : v = .slice (some a) len cap := by simpa using hcs
    simp only [if_true] at hz
    subst hx
    have hw := (hf.slice Try.underlying76).1
    rw [by3] at hw
    simp only [lits, List.length_map, List.length_take, List.length_drop, reachBytes] at hw
    have hlen : (zs.take len).length = len := by simp; omega
    refine ⟨zs.take len, ⟨some a, cap, by rw [hlen], by rw [hlen]; omega, fun hne => ?_⟩, by rw [hlen]; unfold far; omega, fun s hs => ?_⟩
    · have h0 : 0 < len := by rw [← hlen]; exact List.length_pos_iff.2 hne
      have ha := plain_addr (a := a) (by simpa [Addr.add] using hcell 0 (by omega))
      refine ⟨a.block, a.off, by rw [← ha], fun j u hu => ?_⟩
      have hj : j < len := by
        have := (List.getElem?_eq_some_iff.1 hu).1
        simp [ints] at this; omega
      have hc := hcell j (by omega)
      rw [ha, add_off] at hc
      rw [hc, ← hu]
      simp only [ints, List.getElem?_map]
      rw [List.getElem?_take, if_pos hj, List.getElem?_eq_getElem (show j < zs.length by omega)]
      simp [List.getD, show j < zs.length by omega]
    · have := hwz s (List.mem_of_mem_take hs)
      simp [Lit.wf, IntKind.min, IntKind.max, IntKind.signed, IntKind.bits] at this
      exact this

theorem open_bools {fuel : Nat} {v : Value} {y : DataW H × List MemPlace} (h : DataW.trod enc Try.prog W 0 (fun _ => true) true fuel 57 [v] = some y) (hf : Fits 57 y.1) : ∃ l, BoolsAt W v l ∧ l.length ≤ far := by
  rcases open_slice1 Try.underlying57 c4 h with ⟨hcs, hx⟩ | ⟨a, len, cap, m, n, V, D, Pl, hcs, _, hl, hm, hmm, hx, hcell⟩
  · obtain rfl : v = .slice none 0 0 := by simpa using hcs
    exact ⟨[], BoolsAt.nil _, Nat.zero_le _⟩
  · obtain rfl : v = .slice (some a) len cap := by simpa using hcs
    simp only [if_true] at hmm
    subst hmm hx
    have hw := (hf.slice Try.underlying57).1
    rw [by4] at hw
    simp only [List.length_map, List.length_range, reachBytes] at hw
    obtain ⟨B, hB⟩ := choose_lt (α := Bool) (p := fun i b => V i = .bool b) (n := m) (fun i hi => by
      obtain ⟨b, hb, _⟩ := DataW.trod_bool Try.underlying4 (hcell i hi).2
      exact ⟨b, by simpa using hb⟩)
    have hlen : ((List.range len).map B).length = len := by simp
    refine ⟨(List.range len).map B, ⟨some a, m, by rw [hlen], by rw [hlen]; omega, fun hne => ?_⟩, by rw [hlen]; unfold far; omega⟩
    have h0 : 0 < len := by rw [← hlen]; exact List.length_pos_iff.2 hne
    have ha := plain_addr (a := a) (by simpa [Addr.add] using (hcell 0 (by omega)).1)
    refine ⟨a.block, a.off, by rw [← ha], fun j u hu => ?_⟩
    have hj : j < len := by
      have := (List.getElem?_eq_some_iff.1 hu).1
      simpa using this
    have hc := (hcell j (by omega)).1
    rw [ha, add_off, hB j (by omega)] at hc
    rw [hc, ← hu]
    simp [hj]
theorem open_keeps {fuel : Nat} {v : Value} {y : DataW H × List MemPlace} (h : DataW.trod enc Try.prog W 0 (fun _ => true) true fuel 47 [v] = some y) (hf : Fits 47 y.1) : ∃ l, KeepsAt W v l := by
  rcases open_slice1 Try.underlying47 c57 h with ⟨hcs, hx⟩ | ⟨a, len, cap, m, n, V, D, Pl, hcs, _, hl, hm, hmm, hx, hcell⟩
  · obtain rfl : v = .slice none 0 0 := by simpa using hcs
    exact ⟨[], none, 0, rfl, Nat.zero_le _, fun h => absurd rfl h, by simp⟩
  · obtain rfl : v = .slice (some a) len cap := by simpa using hcs
    simp only [if_true] at hmm
    subst hmm hx
    obtain ⟨hw, hfs⟩ := hf.slice Try.underlying47
    rw [by57] at hw
    simp only [List.length_map, List.length_range, reachBytes] at hw
    obtain ⟨B, hB⟩ := choose_lt (α := List Bool) (p := fun i b => BoolsAt W (V i) b ∧ b.length ≤ far) (n := len) (fun i hi => by
      exact open_bools (hcell i (by omega)).2 (hfs _ (.inl (List.mem_map.2 ⟨i, List.mem_range.2 hi, rfl⟩))))
    have hlen : ((List.range len).map fun i => (V i, B i)).length = len := by simp
    refine ⟨(List.range len).map fun i => (V i, B i), some a, m, by rw [hlen], by rw [hlen]; unfold far; omega, fun hne => ?_, fun x hx => ?_⟩
    · have h0 : 0 < len := by rw [← hlen]; exact List.length_pos_iff.2 hne
      have ha := plain_addr (a := a) (by simpa [Addr.add] using (hcell 0 (by omega)).1)
      refine ⟨a.block, a.off, by rw [← ha], fun j u hu => ?_⟩
      have hj : j < len := by
        have := (List.getElem?_eq_some_iff.1 hu).1
        simpa using this
      have hc := (hcell j (by omega)).1
      rw [ha, add_off] at hc
      rw [hc, ← hu]
      simp [hj]
    · obtain ⟨i, hi, rfl⟩ := List.mem_map.1 hx
      exact hB i (List.mem_range.1 hi)
instance : Inhabited OpD := ⟨⟨0, 0, 0, .bool false, [], .bool false, []⟩⟩
theorem lit_i64 {n : Int} (h : (Lit.int .i64 n).wf = true) : inI64 n := by
  simp [Lit.wf, IntKind.min, IntKind.max, IntKind.signed, IntKind.bits] at h
  exact h
theorem under69 : ∃ f0 f1 f2 f3 f4, Try.prog.underlying 69 = some (.struct #[f0, f1, f2, f3, f4]) ∧ (f0.offset = 0 ∧ f0.type = 3) ∧ (f1.offset = 1 ∧ f1.type = 3) ∧ (f2.offset = 2 ∧ f2.type = 3) ∧ (f3.offset = 3 ∧ f3.type = 22) ∧ (f4.offset = 4 ∧ f4.type = 47) :=
  ⟨_, _, _, _, _, Try.underlying69, ⟨rfl, rfl⟩, ⟨rfl, rfl⟩, ⟨rfl, rfl⟩, ⟨rfl, rfl⟩, ⟨rfl, rfl⟩⟩
theorem c22 : Try.prog.cellsOf 22 = 1 := by kernel_rfl
theorem c47 : Try.prog.cellsOf 47 = 1 := by kernel_rfl
set_option maxRecDepth 100000 in
/-- One operation out of its five cells. -/
theorem open_op {fuel : Nat} {cs : List Value} {y : DataW H × List MemPlace} (h : DataW.trod enc Try.prog W 0 (fun _ => true) true fuel 69 cs = some y) (hlen : cs.length = 5) (hf : Fits 69 y.1) : ∃ d, cs = opCells d ∧ OpAt W d := by
  obtain ⟨f0, f1, f2, f3, f4, hu, ⟨o0, t0⟩, ⟨o1, t1⟩, ⟨o2, t2⟩, ⟨o3, t3⟩, ⟨o4, t4⟩⟩ := under69
  obtain ⟨xs, n, _, hx, _, hxl, hg⟩ := DataW.trod_struct hu h
  match cs, hlen with
  | [v0, v1, v2, v3, v4], _ =>
    match xs, hxl with
    | [y0, y1, y2, y3, y4], _ =>
      subst hx
      have g0 := hg 0 f0 rfl
      have g1 := hg 1 f1 rfl
      have g2 := hg 2 f2 rfl
      have g3 := hg 3 f3 rfl
      have g4 := hg 4 f4 rfl
      rw [o0, t0, c3] at g0
      rw [o1, t1, c3] at g1
      rw [o2, t2, c3] at g2
      rw [o3, t3, c22] at g3
      rw [o4, t4, c47] at g4
      obtain ⟨k, e0, _, w0⟩ := DataW.trod_int Try.underlying3 g0
      obtain ⟨s, e1, _, w1⟩ := DataW.trod_int Try.underlying3 g1
      obtain ⟨nn, e2, _, w2⟩ := DataW.trod_int Try.underlying3 g2
      have F3 : Fits 22 y3.1 := by
        have := hf.field hu (j := 3) (f := f3) (d := y3.1) rfl rfl
        rwa [t3] at this
      have F4 : Fits 47 y4.1 := by
        have := hf.field hu (j := 4) (f := f4) (d := y4.1) rfl rfl
        rwa [t4] at this
      obtain ⟨bl, hb, hbl⟩ := open_bytes (v := v3) (y := y3) g3 F3
      obtain ⟨kl, hk⟩ := open_keeps (v := v4) (y := y4) g4 F4
      simp at e0 e1 e2
      subst e0 e1 e2
      exact ⟨⟨k, s, nn, v3, bl, v4, kl⟩, rfl, lit_i64 w0, lit_i64 w1, lit_i64 w2, hb, hbl, hk⟩
theorem open_ops {fuel : Nat} {v : Value} {y : DataW H × List MemPlace} (h : DataW.trod enc Try.prog W 0 (fun _ => true) true fuel 61 [v] = some y) (hf : Fits 61 y.1) : ∃ l, OpsAt W v l := by
  rcases open_slice Try.underlying61 h with ⟨hcs, hx⟩ | ⟨a, len, cap, m, n, D, Pl, hcs, _, hl, hm, hmm, hx, hcell⟩
  · obtain rfl : v = .slice none 0 0 := by simpa using hcs
    exact ⟨[], none, 0, rfl, Nat.zero_le _, fun h => absurd rfl h, by simp⟩
  · obtain rfl : v = .slice (some a) len cap := by simpa using hcs
    simp only [if_true] at hmm
    subst hmm hx
    obtain ⟨hw, hfs⟩ := hf.slice Try.underlying61
    have h69 := by69
    simp only [List.length_map, List.length_range, reachBytes] at hw
    have hlw : len + (m - len) ≤ 140737488351232 := Nat.le_trans (Nat.le_mul_of_pos_right _ h69) hw
    obtain ⟨B, hB⟩ := choose_lt (α := OpD) (p := fun i d => OpAt W d ∧ ∀ j u, (opCells d)[j]? = some u → W.cell? (a.add (i * 5 + j)) = some u) (n := len) (fun i hi => by
      obtain ⟨cs', h1, h2⟩ := hcell i (by omega)
      rw [c69] at h1
      obtain ⟨_, h3, h4⟩ := World.cells?_some h1
      obtain ⟨d, rfl, hd⟩ := open_op h2 h3 (hfs _ (.inl (List.mem_map.2 ⟨i, List.mem_range.2 hi, rfl⟩)))
      refine ⟨d, hd, fun j u hu => ?_⟩
      have hj := (List.getElem?_eq_some_iff.1 hu).1
      have := h4 j (by rw [← h3]; exact hj)
      rw [add_add] at this
      rw [this, hu])
    have hlen : ((List.range len).map B).length = len := by simp
    refine ⟨(List.range len).map B, some a, m, by rw [hlen], by rw [hlen]; unfold far; omega, fun hne => ?_, fun x hx => ?_⟩
    · have h0 : 0 < len := by rw [← hlen]; exact List.length_pos_iff.2 hne
      have ha := plain_addr (a := a) (by simpa [Addr.add] using (hB 0 h0).2 0 _ rfl)
      refine ⟨a.block, a.off, by rw [← ha], fun i d hd j u hu => ?_⟩
      have hi : i < len := by
        have := (List.getElem?_eq_some_iff.1 hd).1
        simpa using this
      obtain rfl : B i = d := by simpa [hi] using hd
      have hc := (hB i hi).2 j u hu
      rw [ha, add_off] at hc
      rw [show a.off + i * 5 + j = a.off + (i * 5 + j) by omega]
      exact hc
    · obtain ⟨i, hi, rfl⟩ := List.mem_map.1 hx
      exact (hB i (List.mem_range.1 hi)).1
set_option maxRecDepth 100000 in
/-- A slice's value, out of its type. -/
theorem trod_one {t e : TypeId} (ht : Try.prog.underlying t = some (.slice e)) {base : Nat} {v : Value} {d : DataW H} {p : List MemPlace} (hv : Value.okWide Try.prog W .any base t v) (h : DataW.Trod enc Try.prog W 0 (fun _ => true) true t v d p) : ∃ fuel, DataW.trod enc Try.prog W 0 (fun _ => true) true fuel t [v] = some (d, p) := by
  obtain ⟨a, len, cap, rfl⟩ := okWide_slice ht hv
  obtain ⟨fuel, hf⟩ := h
  exact ⟨fuel, hf⟩
end
end Go.Proofs.Ytghnbbpoaeheaaa

/- The acts of DiskLoads as they came in; spindlelaw04's much, walked. -/
namespace Go.Proofs.Ytghnbbpoaeheaaa
open Go.RowKit Go.ChangeShapes Go.WideShapes Go.Deep

structure ActD where
  kind : Int
  at_ : Int
  bv : Value
  bl : List Int
  kv : Value
  kl : List Bool
instance : Inhabited ActD := ⟨⟨0, 0, .bool false, [], .bool false, []⟩⟩
structure ActAt (w : World) (d : ActD) : Prop where
  kind : 0 ≤ d.kind ∧ d.kind ≤ 255
  at_ : inI64 d.at_
  b : BytesAt w d.bv d.bl
  bl : d.bl.length ≤ far
  k : BoolsAt w d.kv d.kl
  kl : d.kl.length ≤ far
theorem ActAt.old {W w : World} {d : ActD} (h : ActAt W d) (hk : Keep (Old W) W w) : ActAt w d := ⟨h.kind, h.at_, h.b.old hk, h.bl, h.k.old hk, h.kl⟩
def actCells (d : ActD) : List Value := [.int .u8 d.kind, .int .i64 d.at_, d.bv, d.kv]
def ActsAt (w : World) (v : Value) (l : List ActD) : Prop :=
  ∃ a cap, v = .slice a l.length cap ∧ l.length ≤ far ∧ (l ≠ [] → ∃ bb o, a = some ⟨bb, o, none⟩ ∧ ∀ i d, l[i]? = some d → w.rangeAt bb (o + i * 4) (actCells d)) ∧ ∀ d ∈ l, ActAt w d
/-- The act i, as the walk asks it. -/
theorem ActsAt.get {W : World} {ov : Value} {acts : List ActD} (h : ActsAt W ov acts) {i : Nat} {d : ActD} (hd : acts[i]? = some d) :
    ∃ bb o cap, ov = .slice (some ⟨bb, o, none⟩) acts.length cap ∧ ActAt W d ∧ ∀ w, Keep (Old W) W w → w.rangeAt bb (o + i * 4) (actCells d) := by
  obtain ⟨x, cap, hv, _, h3, h4⟩ := h
  obtain ⟨bb, o, rfl, hr⟩ := h3 (by rintro rfl; simp at hd)
  exact ⟨bb, o, cap, hv, h4 d (List.mem_of_getElem? hd), fun w hk => hk.oldRange (hr i d hd)⟩
theorem act_cells {w : World} {bb o : Nat} {d : ActD} (h : w.rangeAt bb o (actCells d)) : (w.cell? ⟨bb, o, none⟩ = some (.int .u8 d.kind) ∧ w.cell? ⟨bb, o + 1, none⟩ = some (.int .i64 d.at_)) ∧ w.cell? ⟨bb, o + 2, none⟩ = some d.bv ∧ w.cell? ⟨bb, o + 3, none⟩ = some d.kv :=
  ⟨⟨h 0 _ rfl, h 1 _ rfl⟩, h 2 _ rfl, h 3 _ rfl⟩

theorem by59 : 1 ≤ Try.prog.bytesOf 59 := of_decide_eq_true (by kernel_rfl)
theorem c59 : Try.prog.cellsOf 59 = 4 := by kernel_rfl
theorem under59 : ∃ f0 f1 f2 f3, Try.prog.underlying 59 = some (.struct #[f0, f1, f2, f3]) ∧ (f0.offset = 0 ∧ f0.type = 5) ∧ (f1.offset = 1 ∧ f1.type = 3) ∧ (f2.offset = 2 ∧ f2.type = 22) ∧ (f3.offset = 3 ∧ f3.type = 57) :=
  ⟨_, _, _, _, Try.underlying59, ⟨rfl, rfl⟩, ⟨rfl, rfl⟩, ⟨rfl, rfl⟩, ⟨rfl, rfl⟩⟩
theorem lit_u8 {n : Int} (h : (Lit.int .u8 n).wf = true) : 0 ≤ n ∧ n ≤ 255 := by
  simp [Lit.wf, IntKind.min, IntKind.max, IntKind.signed, IntKind.bits] at h
  exact h
section
variable {H : Type} {enc : TypeId × Value → H} {W : World}
set_option maxRecDepth 100000 in
/-- One act out of its four cells. -/
theorem open_act {fuel : Nat} {cs : List Value} {y : DataW H × List MemPlace} (h : DataW.trod enc Try.prog W 0 (fun _ => true) true fuel 59 cs = some y) (hlen : cs.length = 4) (hf : Fits 59 y.1) : ∃ d, cs = actCells d ∧ ActAt W d := by
  obtain ⟨f0, f1, f2, f3, hu, ⟨o0, t0⟩, ⟨o1, t1⟩, ⟨o2, t2⟩, ⟨o3, t3⟩⟩ := under59
  obtain ⟨xs, n, _, hx, _, hxl, hg⟩ := DataW.trod_struct hu h
  match cs, hlen with
  | [v0, v1, v2, v3], _ =>
    match xs, hxl with
    | [y0, y1, y2, y3], _ =>
      subst hx
      have g0 := hg 0 f0 rfl
      have g1 := hg 1 f1 rfl
      have g2 := hg 2 f2 rfl
      have g3 := hg 3 f3 rfl
      rw [o0, t0, c5] at g0
      rw [o1, t1, c3] at g1
      rw [o2, t2, c22] at g2
      rw [o3, t3, c57] at g3
      obtain ⟨k, e0, _, w0⟩ := DataW.trod_int Try.underlying5 g0
      obtain ⟨s, e1, _, w1⟩ := DataW.trod_int Try.underlying3 g1
      have F2 : Fits 22 y2.1 := by
        have := hf.field hu (j := 2) (f := f2) (d := y2.1) rfl rfl
        rwa [t2] at this
      have F3 : Fits 57 y3.1 := by
        have := hf.field hu (j := 3) (f := f3) (d := y3.1) rfl rfl
        rwa [t3] at this
      obtain ⟨bl, hb, hbl⟩ := open_bytes (v := v2) (y := y2) g2 F2
      obtain ⟨kl, hk, hkl⟩ := open_bools (v := v3) (y := y3) g3 F3
      simp at e0 e1
      subst e0 e1
      exact ⟨⟨k, s, v2, bl, v3, kl⟩, rfl, lit_u8 w0, lit_i64 w1, hb, hbl, hk, hkl⟩
theorem open_acts {fuel : Nat} {v : Value} {y : DataW H × List MemPlace} (h : DataW.trod enc Try.prog W 0 (fun _ => true) true fuel 23 [v] = some y) (hf : Fits 23 y.1) : ∃ l, ActsAt W v l := by
  rcases open_slice Try.underlying23 h with ⟨hcs, hx⟩ | ⟨a, len, cap, m, n, D, Pl, hcs, _, hl, hm, hmm, hx, hcell⟩
  · obtain rfl : v = .slice none 0 0 := by simpa using hcs
    exact ⟨[], none, 0, rfl, Nat.zero_le _, fun h => absurd rfl h, by simp⟩
  · obtain rfl : v = .slice (some a) len cap := by simpa using hcs
    simp only [if_true] at hmm
    subst hmm hx
    obtain ⟨hw, hfs⟩ := hf.slice Try.underlying23
    have h59 := by59
    simp only [List.length_map, List.length_range, reachBytes] at hw
    have hlw : len + (m - len) ≤ 140737488351232 := Nat.le_trans (Nat.le_mul_of_pos_right _ h59) hw
    obtain ⟨B, hB⟩ := choose_lt (α := ActD) (p := fun i d => ActAt W d ∧ ∀ j u, (actCells d)[j]? = some u → W.cell? (a.add (i * 4 + j)) = some u) (n := len) (fun i hi => by
      obtain ⟨cs', h1, h2⟩ := hcell i (by omega)
      rw [c59] at h1
      obtain ⟨_, h3, h4⟩ := World.cells?_some h1
      obtain ⟨d, rfl, hd⟩ := open_act h2 h3 (hfs _ (.inl (List.mem_map.2 ⟨i, List.mem_range.2 hi, rfl⟩)))
      refine ⟨d, hd, fun j u hu => ?_⟩
      have hj := (List.getElem?_eq_some_iff.1 hu).1
      have := h4 j (by rw [← h3]; exact hj)
      rw [add_add] at this
      rw [this, hu])
    have hlen : ((List.range len).map B).length = len := by simp
    refine ⟨(List.range len).map B, some a, m, by rw [hlen], by rw [hlen]; unfold far; omega, fun hne => ?_, fun x hx => ?_⟩
    · have h0 : 0 < len := by rw [← hlen]; exact List.length_pos_iff.2 hne
      have ha := plain_addr (a := a) (by simpa [Addr.add] using (hB 0 h0).2 0 _ rfl)
      refine ⟨a.block, a.off, by rw [← ha], fun i d hd j u hu => ?_⟩
      have hi : i < len := by
        have := (List.getElem?_eq_some_iff.1 hd).1
        simpa using this
      obtain rfl : B i = d := by simpa [hi] using hd
      have hc := (hB i hi).2 j u hu
      rw [ha, add_off] at hc
      rw [show a.off + i * 4 + j = a.off + (i * 4 + j) by omega]
      exact hc
    · obtain ⟨i, hi, rfl⟩ := List.mem_map.1 hx
      exact (hB i (List.mem_range.1 hi)).1
end
end Go.Proofs.Ytghnbbpoaeheaaa

/- What DiskLoads holds: a disk, the document's disk, the book, their pair and a copy of the act. -/
namespace Go.Proofs.Ytghnbbpoaeheaaa
open Go.RowKit

theorem All.perm {W w : World} {ps qs : List Part} (h : All W ps w) (hp : ps.Perm qs) : All W qs w :=
  ⟨fun p hm => h.holds p (hp.mem_iff.2 hm), (hp.pairwise_iff (fun {a b} hab x hx hy => hab x hy hx)).1 h.apart, fun p hm => h.fresh p (hp.mem_iff.2 hm), h.kept⟩
/-- A part that says nothing. -/
def emP : Part := ⟨fun _ => True, fun _ => False, fun _ _ _ => trivial, fun _ _ h => h.elim⟩
theorem All.drop {W w w' : World} {p : Part} {ps : List Part} (h : All W (p :: ps) w) (hk : Keep p.F w w') : All W ps w' := (h.step (p' := emP) hk trivial (fun _ h => h.elim)).tail

structure Pl where
  d : Nat
  r : Nat
  bk : Nat
  pr : Nat
  ga : Nat
def prC (p : Pl) : Array Value := #[.pointer (some ⟨p.d, 0, none⟩), .pointer (some ⟨p.r, 0, none⟩), .pointer (some ⟨p.bk, 0, none⟩)]
def gaC (x : ActD) : Array Value := #[.int .u8 x.kind, .int .i64 x.at_, x.bv, x.kv]
/-- The whole of it. -/
def St (W : World) (p : Pl) (x : ActD) (D1 D2 : Dk) (qb qi : List (Value × List Int)) (L : List Part) (w : World) : Prop :=
  ∃ F1 F2 F3, All W (dkP p.d D1 F1 :: rfP p.r D2 F2 :: bkP p.bk qb qi F3 :: ceP p.pr (prC p) 55 :: ceP p.ga (gaC x) 59 :: L) w
section
variable {W w w' : World} {p : Pl} {x : ActD} {D1 D2 : Dk} {qb qi : List (Value × List Int)} {L : List Part}
theorem St.quiet (h : St W p x D1 D2 qb qi L w) (hk : Keep NoF w w') : St W p x D1 D2 qb qi L w' := by
  obtain ⟨F1, F2, F3, h⟩ := h; exact ⟨F1, F2, F3, h.quiet hk⟩
theorem St.kept (h : St W p x D1 D2 qb qi L w) : Keep (Old W) W w := by obtain ⟨F1, F2, F3, h⟩ := h; exact h.kept
theorem St.cells (h : St W p x D1 D2 qb qi L w) : (w.cell? ⟨p.pr, 0, none⟩ = some (.pointer (some ⟨p.d, 0, none⟩)) ∧ w.cell? ⟨p.pr, 1, none⟩ = some (.pointer (some ⟨p.r, 0, none⟩)) ∧ w.cell? ⟨p.pr, 2, none⟩ = some (.pointer (some ⟨p.bk, 0, none⟩))) ∧
    w.cell? ⟨p.ga, 0, none⟩ = some (.int .u8 x.kind) ∧ w.cell? ⟨p.ga, 1, none⟩ = some (.int .i64 x.at_) ∧ w.cell? ⟨p.ga, 2, none⟩ = some x.bv ∧ w.cell? ⟨p.ga, 3, none⟩ = some x.kv := by
  obtain ⟨F1, F2, F3, h⟩ := h
  have a1 : w.heap[p.pr]? = some (.cells (prC p) 55 (0, 0)) := h.holds (ceP p.pr (prC p) 55) (.tail _ (.tail _ (.tail _ (.head _))))
  have a2 : w.heap[p.ga]? = some (.cells (gaC x) 59 (0, 0)) := h.holds (ceP p.ga (gaC x) 59) (.tail _ (.tail _ (.tail _ (.tail _ (.head _)))))
  exact ⟨⟨cell_at a1 0 rfl, cell_at a1 1 rfl, cell_at a1 2 rfl⟩, cell_at a2 0 rfl, cell_at a2 1 rfl, cell_at a2 2 rfl, cell_at a2 3 rfl⟩
theorem St.byL (h : St W p x D1 D2 qb qi L w) {v : Value} {l : List Int} (hv : byP v l ∈ L) : BytesAt w v l := by
  obtain ⟨F1, F2, F3, h⟩ := h
  exact OwnB.bytes (h.holds (byP v l) (.tail _ (.tail _ (.tail _ (.tail _ (.tail _ hv))))))
theorem St.inL (h : St W p x D1 D2 qb qi L w) {v : Value} {l : List Int} (hv : inP v l ∈ L) : IntsAt w v l := by
  obtain ⟨F1, F2, F3, h⟩ := h
  exact OwnI.ints (h.holds (inP v l) (.tail _ (.tail _ (.tail _ (.tail _ (.tail _ hv))))))
theorem St.byQ (h : St W p x D1 D2 qb qi L w) {v : Value} {l : List Int} (hv : (v, l) ∈ qb) : BytesAt w v l := by
  obtain ⟨F1, F2, F3, h⟩ := h
  obtain ⟨bv, iv, hb⟩ : BookAt w p.bk qb qi F3 := h.holds (bkP p.bk qb qi F3) (.tail _ (.tail _ (.head _)))
  exact OwnB.bytes (hb.db _ hv)
theorem St.inQ (h : St W p x D1 D2 qb qi L w) {v : Value} {l : List Int} (hv : (v, l) ∈ qi) : IntsAt w v l := by
  obtain ⟨F1, F2, F3, h⟩ := h
  obtain ⟨bv, iv, hb⟩ : BookAt w p.bk qb qi F3 := h.holds (bkP p.bk qb qi F3) (.tail _ (.tail _ (.head _)))
  exact OwnI.ints (hb.di _ hv)
theorem St.ok1 (h : St W p x D1 D2 qb qi L w) : D1.Ok := by obtain ⟨F1, F2, F3, h⟩ := h; exact h.head.ok
theorem St.ok2 (h : St W p x D1 D2 qb qi L w) : D2.Ok := by obtain ⟨F1, F2, F3, h⟩ := h; exact h.tail.head.ok
/-- The document's disk has its mark that it failed. -/
theorem St.failed (h : St W p x D1 D2 qb qi L w) : w.cell? ⟨p.r, 2, none⟩ = some (.bool D2.failed) := by
  obtain ⟨F1, F2, F3, h⟩ := h
  obtain ⟨lv, cv, q, hr, _⟩ : RefAt w p.r D2 F2 := h.tail.head
  exact cell_at hr 2 rfl
theorem dk_part {F : Nat → Prop} {w : World} {d : Nat} {D : Dk} {ps : List Part} (h : All W (dkP d D F :: ps) w) {D' : Dk} (hp : DiskPost w d D' F w') : ∃ F', All W (dkP d D' F' :: ps) w' := by
  obtain ⟨F', h1, h2, h3⟩ := hp; exact ⟨F', h.step h2 h1 h3⟩
theorem rf_part {F : Nat → Prop} {w : World} {d : Nat} {D : Dk} {ps : List Part} (h : All W (rfP d D F :: ps) w) {D' : Dk} (hp : RefPost w d D' F w') : ∃ F', All W (rfP d D' F' :: ps) w' := by
  obtain ⟨F', h1, h2, h3⟩ := hp; exact ⟨F', h.step h2 h1 h3⟩
/-- A part more, behind those that always stand. -/
theorem st_add {a b c d e q : Part} (h : All W (q :: a :: b :: c :: d :: e :: L) w) : All W (a :: b :: c :: d :: e :: q :: L) w :=
  h.perm (List.perm_middle (l₁ := [a, b, c, d, e])).symm
theorem st_take {a b c d e q : Part} (h : All W (a :: b :: c :: d :: e :: q :: L) w) : All W (q :: a :: b :: c :: d :: e :: L) w :=
  h.perm (List.perm_middle (l₁ := [a, b, c, d, e]))
/-! ### the disk -/
theorem St.read (h : St W p x D1 D2 qb qi L w) (at_ : Int) : Calls Try.prog 36 #[.pointer (some ⟨p.d, 0, none⟩), .int .i64 at_] w (Gives fun v w' => ∃ s, v = .tuple #[s, .int .u16 (D1.code at_)] ∧ St W p x D1 D2 qb qi (byP s (D1.read at_) :: L) w') := by
  obtain ⟨F1, F2, F3, h⟩ := h
  exact Gives.imp (read_any h.head at_) fun v w' ⟨s, h1, h2⟩ => ⟨s, h1, F1, F2, F3, st_add (h.ownB h2)⟩
theorem St.write (h : St W p x D1 D2 qb qi L w) (at_ : Int) {v : Value} {xs : List Int} (hv : BytesAt w v xs) (hcl : D1.cache.length ≤ 1000000) : Calls Try.prog 37 #[.pointer (some ⟨p.d, 0, none⟩), .int .i64 at_, v] w (Gives fun r w' => r = .int .u16 (D1.wcode at_ xs.length) ∧ St W p x (D1.write at_ xs) D2 qb qi L w') := by
  obtain ⟨F1, F2, F3, h⟩ := h
  refine Gives.imp (write_any h.head at_ v xs hv hcl) fun r w' ⟨h1, h2⟩ => ?_
  obtain ⟨F', h3⟩ := dk_part h h2
  exact ⟨h1, F', F2, F3, h3⟩
theorem St.flush (h : St W p x D1 D2 qb qi L w) (hcl : D1.cache.length ≤ 1000000) : Calls Try.prog 38 #[.pointer (some ⟨p.d, 0, none⟩)] w (Gives fun r w' => r = .int .u16 D1.fcode ∧ St W p x D1.flush D2 qb qi L w') := by
  obtain ⟨F1, F2, F3, h⟩ := h
  refine Gives.imp (flush_any h.head hcl) fun r w' ⟨h1, h2⟩ => ?_
  obtain ⟨F', h3⟩ := dk_part h h2
  exact ⟨h1, F', F2, F3, h3⟩
theorem St.fail (h : St W p x D1 D2 qb qi L w) (hcl : D1.cache.length ≤ 1000000) : Calls Try.prog 63 #[.pointer (some ⟨p.d, 0, none⟩)] w (Gives fun r w' => r = .tuple #[] ∧ St W p x D1.fail D2 qb qi L w') := by
  obtain ⟨F1, F2, F3, h⟩ := h
  refine Gives.imp (fail_any h.head hcl) fun r w' ⟨h1, h2⟩ => ?_
  obtain ⟨F', h3⟩ := dk_part h h2
  exact ⟨h1, F', F2, F3, h3⟩
theorem St.crash {s : Value} {kl : List Bool} {g : Nat} (h : St W p x D1 D2 qb qi (lbP s kl g :: L) w) (hcl : D1.cache.length ≤ 1000000) : Calls Try.prog 39 #[.pointer (some ⟨p.d, 0, none⟩), s] w (Gives fun r w' => r = .tuple #[] ∧ St W p x (D1.crash kl) D2 qb qi (lbP s kl g :: L) w') := by
  obtain ⟨F1, F2, F3, h⟩ := h
  have hl : LentBAt w s kl g := h.holds (lbP s kl g) (.tail _ (.tail _ (.tail _ (.tail _ (.tail _ (.head _))))))
  have hap : ∀ y, F1 y → ¬ y = g := (List.pairwise_cons.1 h.apart).1 (lbP s kl g) (.tail _ (.tail _ (.tail _ (.tail _ (.head _)))))
  refine Gives.imp (crash_any h.head s kl hl.bytes (fun a n c e _ hF => ?_) hcl) fun r w' ⟨h1, h2⟩ => ?_
  · obtain ⟨cap, cur, hs, _⟩ := hl
    rw [e] at hs
    simp only [Value.slice.injEq, Option.some.injEq] at hs
    obtain ⟨rfl, -⟩ := hs
    exact hap _ hF rfl
  · obtain ⟨F', h3⟩ := dk_part h h2
    exact ⟨h1, F', F2, F3, h3⟩
theorem St.pending (h : St W p x D1 D2 qb qi L w) (hcl : D1.cache.length ≤ 1000000) : Calls Try.prog 52 #[.pointer (some ⟨p.d, 0, none⟩)] w (Gives fun v w' => St W p x D1 D2 qb qi (inP v D1.pending :: L) w') := by
  obtain ⟨F1, F2, F3, h⟩ := h
  exact Gives.imp (pending_any h.head hcl) fun v w' h2 => ⟨F1, F2, F3, st_add (h.ownI h2)⟩
theorem St.image (h : St W p x D1 D2 qb qi L w) : Calls Try.prog 18 #[.pointer (some ⟨p.d, 0, none⟩)] w (Gives fun v w' => St W p x D1 D2 qb qi (byP v D1.image :: L) w') := by
  obtain ⟨F1, F2, F3, h⟩ := h
  exact Gives.imp (image_any h.head) fun v w' h2 => ⟨F1, F2, F3, st_add (h.ownB h2)⟩
theorem St.sectors (h : St W p x D1 D2 qb qi L w) : Calls Try.prog 65 #[.pointer (some ⟨p.d, 0, none⟩)] w fun e w' => e = .returned (.int .i64 D1.las.length) ∧ w = w' := by
  obtain ⟨F1, F2, F3, h⟩ := h; exact Ytghnbbpoaeheaaa.sectors_any h.head
theorem St.dfailed (h : St W p x D1 D2 qb qi L w) : Calls Try.prog 67 #[.pointer (some ⟨p.d, 0, none⟩)] w fun e w' => e = .returned (.bool D1.failed) ∧ w = w' := by
  obtain ⟨F1, F2, F3, h⟩ := h; exact Ytghnbbpoaeheaaa.failed_any h.head
/-! ### the document's disk -/
theorem St.rread (h : St W p x D1 D2 qb qi L w) (at_ : Int) (hcl : D2.cache.length ≤ 1000000) : Calls Try.prog 53 #[.pointer (some ⟨p.r, 0, none⟩), .int .i64 at_] w (Gives fun v w' => ∃ s, v = .tuple #[s, .int .i64 (D2.code at_)] ∧ St W p x D1 D2 qb qi (byP s (D2.read at_) :: L) w') := by
  obtain ⟨F1, F2, F3, h⟩ := h
  exact Gives.imp (rread_any h.tail.head at_ hcl) fun v w' ⟨s, h1, h2⟩ => ⟨s, h1, F1, F2, F3, st_add (h.ownB h2)⟩
theorem St.rwrite (h : St W p x D1 D2 qb qi L w) (at_ : Int) {v : Value} {xs : List Int} (hv : BytesAt w v xs) (hcl : D2.cache.length ≤ 1000000) : Calls Try.prog 54 #[.pointer (some ⟨p.r, 0, none⟩), .int .i64 at_, v] w (Gives fun r w' => r = .int .i64 (D2.wcode at_ xs.length) ∧ St W p x D1 (D2.write at_ xs) qb qi L w') := by
  obtain ⟨F1, F2, F3, h⟩ := h
  refine Gives.imp (rwrite_any h.tail.head at_ hv hcl) fun r w' ⟨h1, h2⟩ => ?_
  obtain ⟨F', h3⟩ := rf_part h.swap h2
  exact ⟨h1, F1, F', F3, h3.swap⟩
theorem St.rflush (h : St W p x D1 D2 qb qi L w) (hcl : D2.cache.length ≤ 1000000) : Calls Try.prog 55 #[.pointer (some ⟨p.r, 0, none⟩)] w (Gives fun r w' => r = .int .i64 D2.fcode ∧ St W p x D1 D2.flush qb qi L w') := by
  obtain ⟨F1, F2, F3, h⟩ := h
  refine Gives.imp (rflush_any h.tail.head hcl) fun r w' ⟨h1, h2⟩ => ?_
  obtain ⟨F', h3⟩ := rf_part h.swap h2
  exact ⟨h1, F1, F', F3, h3.swap⟩
theorem St.rfail (h : St W p x D1 D2 qb qi L w) : Calls Try.prog 64 #[.pointer (some ⟨p.r, 0, none⟩)] w (Gives fun r w' => r = .tuple #[] ∧ St W p x D1 D2.fail qb qi L w') := by
  obtain ⟨F1, F2, F3, h⟩ := h
  refine Gives.imp (rfail_any h.tail.head) fun r w' ⟨h1, h2⟩ => ?_
  obtain ⟨F', h3⟩ := rf_part h.swap h2
  exact ⟨h1, F1, F', F3, h3.swap⟩
/-- The keeps lie in what the call was given. -/
theorem St.rcrash (h : St W p x D1 D2 qb qi L w) {kv : Value} {kl : List Bool} (hk : BoolsAt W kv kl) (hcl : D2.cache.length ≤ 1000000) : Calls Try.prog 57 #[.pointer (some ⟨p.r, 0, none⟩), kv] w (Gives fun r w' => r = .tuple #[] ∧ St W p x D1 (D2.crash kl) qb qi L w') := by
  obtain ⟨F1, F2, F3, h⟩ := h
  refine Gives.imp (rcrash_any h.tail.head (hk.old h.kept) (fun hl a n c e hF => ?_) hcl) fun r w' ⟨h1, h2⟩ => ?_
  · obtain ⟨a', cap, hs, _, hr⟩ := hk
    obtain ⟨bb, o, rfl, hr2⟩ := hr hl
    rw [e] at hs
    simp only [Value.slice.injEq, Option.some.injEq] at hs
    obtain ⟨rfl, -⟩ := hs
    have h3 := h.fresh (rfP p.r D2 F2) (.tail _ (.head _)) _ hF
    obtain ⟨b0, kt, rfl⟩ := List.exists_cons_of_ne_nil hl
    have := World.block_lt_of_cell? W _ (hr2 0 _ rfl)
    simp at this h3
    omega
  · obtain ⟨F', h3⟩ := rf_part h.swap h2
    exact ⟨h1, F1, F', F3, h3.swap⟩
theorem St.rpending (h : St W p x D1 D2 qb qi L w) (hcl : D2.cache.length ≤ 1000000) : Calls Try.prog 61 #[.pointer (some ⟨p.r, 0, none⟩)] w (Gives fun v w' => St W p x D1 D2 qb qi (inP v D2.pending :: L) w') := by
  obtain ⟨F1, F2, F3, h⟩ := h
  exact Gives.imp (rpending_any h.tail.head hcl) fun v w' h2 => ⟨F1, F2, F3, st_add (h.ownI h2)⟩
theorem St.rimage (h : St W p x D1 D2 qb qi L w) : Calls Try.prog 62 #[.pointer (some ⟨p.r, 0, none⟩)] w (Gives fun v w' => St W p x D1 D2 qb qi (byP v D2.image :: L) w') := by
  obtain ⟨F1, F2, F3, h⟩ := h
  exact Gives.imp (rimage_any h.tail.head) fun v w' h2 => ⟨F1, F2, F3, st_add (h.ownB h2)⟩
theorem St.rsectors (h : St W p x D1 D2 qb qi L w) : Calls Try.prog 66 #[.pointer (some ⟨p.r, 0, none⟩)] w fun e w' => e = .returned (.int .i64 D2.las.length) ∧ w = w' := by
  obtain ⟨F1, F2, F3, h⟩ := h; exact rsectors_any h.tail.head
/-! ### the book -/
theorem st_bk {a b c d e q c' : Part} (h : All W (a :: b :: c :: d :: e :: q :: L) w) (hk : Keep c.F w w') (hc : c'.P w') (hF : ∀ y, c'.F y → c.F y ∨ q.F y ∨ w.heap.size ≤ y) : All W (a :: b :: c' :: d :: e :: L) w' :=
  (((st_take h).perm (List.perm_middle (l₁ := [q, a, b]))).join hk hc hF).back
theorem All.first {ps : List Part} {a b : Part} (h : All W (a :: ps) w) (hb : b ∈ ps) : ∀ y, a.F y → ¬ b.F y := (List.pairwise_cons.1 h.apart).1 b hb
theorem St.bookB {s : Value} {l : List Int} (h : St W p x D1 D2 qb qi (byP s l :: L) w) (hn : qb.length ≤ 1000000) : Calls Try.prog 20 #[.pointer (some ⟨p.bk, 0, none⟩), s] w (Gives fun v w' => v = .tuple #[] ∧ St W p x D1 D2 (qb ++ [(s, l)]) qi L w') := by
  obtain ⟨F1, F2, F3, h⟩ := h
  have hs := (st_take h)
  refine Gives.imp (book_bytes_any (h.holds (bkP p.bk qb qi F3) (.tail _ (.tail _ (.head _)))) hs.head (fun y hy hF => hs.first (.tail _ (.tail _ (.head _))) y hy hF) hn) fun v w' ⟨h1, F', h2, h3, h4⟩ => ⟨h1, F1, F2, F', st_bk h h3 h2 h4⟩
theorem St.bookI {s : Value} {l : List Int} (h : St W p x D1 D2 qb qi (inP s l :: L) w) (hn : qi.length ≤ 1000000) : Calls Try.prog 60 #[.pointer (some ⟨p.bk, 0, none⟩), s] w (Gives fun v w' => v = .tuple #[] ∧ St W p x D1 D2 qb (qi ++ [(s, l)]) L w') := by
  obtain ⟨F1, F2, F3, h⟩ := h
  have hs := (st_take h)
  refine Gives.imp (book_ints_any (h.holds (bkP p.bk qb qi F3) (.tail _ (.tail _ (.head _)))) hs.head (fun y hy hF => hs.first (.tail _ (.tail _ (.head _))) y hy hF) hn) fun v w' ⟨h1, F', h2, h3, h4⟩ => ⟨h1, F1, F2, F', st_bk h h3 h2 h4⟩
/-! ### what is lent -/
theorem St.lent (h : St W p x D1 D2 qb qi L w) {v : Value} {l : List Int} (hv : BytesAt w v l) (hn : l.length ≤ 1000000000) : Calls Try.prog 11 #[v] w (Gives fun s w' => ∃ g, St W p x D1 D2 qb qi (lnP s l g :: L) w') := by
  obtain ⟨F1, F2, F3, h⟩ := h
  exact Gives.imp (lent_any hv hn) fun s w' ⟨g, h1, h2, h3⟩ => ⟨g, F1, F2, F3, st_add (h.new (p' := lnP s l g) h3 h1 (fun y hy => by have : y = g := hy; omega))⟩
theorem St.lentB (h : St W p x D1 D2 qb qi L w) {v : Value} {l : List Bool} (hv : BoolsAt w v l) (hn : l.length ≤ 1000000000) : Calls Try.prog 56 #[v] w (Gives fun s w' => ∃ g, St W p x D1 D2 qb qi (lbP s l g :: L) w') := by
  obtain ⟨F1, F2, F3, h⟩ := h
  exact Gives.imp (lentB_any hv hn) fun s w' ⟨g, h1, h2, h3⟩ => ⟨g, F1, F2, F3, st_add (h.new (p' := lbP s l g) h3 h1 (fun y hy => by have : y = g := hy; omega))⟩
theorem St.ln {s : Value} {l : List Int} {g : Nat} (h : St W p x D1 D2 qb qi (lnP s l g :: L) w) : LentAt w s l g := by
  obtain ⟨F1, F2, F3, h⟩ := h; exact (st_take h).head
theorem St.lb {s : Value} {l : List Bool} {g : Nat} (h : St W p x D1 D2 qb qi (lbP s l g :: L) w) : LentBAt w s l g := by
  obtain ⟨F1, F2, F3, h⟩ := h; exact (st_take h).head
theorem St.whole {s v : Value} {l : List Int} {g : Nat} (h : St W p x D1 D2 qb qi (lnP s l g :: L) w) (hv : BytesAt w v l) (hn : l.length ≤ 1000000000) : Calls Try.prog 14 #[s, v] w (Gives fun r w' => r = .bool true ∧ St W p x D1 D2 qb qi (lnP s l g :: L) w') :=
  Gives.imp (whole_any h.ln hv hn) fun _ _ ⟨h1, h2⟩ => ⟨h1, h.quiet h2⟩
theorem St.wholeB {s v : Value} {l : List Bool} {g : Nat} (h : St W p x D1 D2 qb qi (lbP s l g :: L) w) (hv : BoolsAt w v l) (hn : l.length ≤ 1000000000) : Calls Try.prog 58 #[s, v] w (Gives fun r w' => r = .bool true ∧ St W p x D1 D2 qb qi (lbP s l g :: L) w') :=
  Gives.imp (wholeB_any h.lb hv hn) fun _ _ ⟨h1, h2⟩ => ⟨h1, h.quiet h2⟩
theorem St.spoil {s : Value} {l : List Int} {g : Nat} (h : St W p x D1 D2 qb qi (lnP s l g :: L) w) : Calls Try.prog 15 #[s] w (Gives fun r w' => r = .tuple #[] ∧ St W p x D1 D2 qb qi L w') := by
  refine Gives.imp (spoil_any h.ln) fun r w' ⟨h1, h2⟩ => ?_
  obtain ⟨F1, F2, F3, h⟩ := h
  exact ⟨h1, F1, F2, F3, (st_take h).drop h2⟩
theorem St.spoilB {s : Value} {l : List Bool} {g : Nat} (h : St W p x D1 D2 qb qi (lbP s l g :: L) w) : Calls Try.prog 59 #[s] w (Gives fun r w' => r = .tuple #[] ∧ St W p x D1 D2 qb qi L w') := by
  refine Gives.imp (spoilB_any h.lb) fun r w' ⟨h1, h2⟩ => ?_
  obtain ⟨F1, F2, F3, h⟩ := h
  exact ⟨h1, F1, F2, F3, (st_take h).drop h2⟩
theorem St.same (h : St W p x D1 D2 qb qi L w) {v1 v2 : Value} {l : List Int} (h1 : BytesAt w v1 l) (h2 : BytesAt w v2 l) : Calls Try.prog 19 #[v1, v2] w (Gives fun v w' => v = .bool true ∧ St W p x D1 D2 qb qi L w') :=
  Gives.imp (same_any h1 h2) fun _ _ ⟨h3, h4⟩ => ⟨h3.trans (by simp), h.quiet h4⟩
theorem St.sameI (h : St W p x D1 D2 qb qi L w) {v1 v2 : Value} {l : List Int} (h1 : IntsAt w v1 l) (h2 : IntsAt w v2 l) : Calls Try.prog 50 #[v1, v2] w (Gives fun v w' => v = .bool true ∧ St W p x D1 D2 qb qi L w') :=
  Gives.imp (sameInts_any h1 h2) fun _ _ ⟨h3, h4⟩ => ⟨h3.trans (by simp), h.quiet h4⟩
theorem St.drop {q : Part} (h : St W p x D1 D2 qb qi (q :: L) w) : St W p x D1 D2 qb qi L w := by
  obtain ⟨F1, F2, F3, h⟩ := h; exact ⟨F1, F2, F3, (st_take h).tail⟩
/-- The two first of the lists change their places. -/
theorem St.turn {q q2 : Part} (h : St W p x D1 D2 qb qi (q :: q2 :: L) w) : St W p x D1 D2 qb qi (q2 :: q :: L) w := by
  obtain ⟨F1, F2, F3, h⟩ := h
  exact ⟨F1, F2, F3, h.perm ((List.Perm.swap q2 q L).append_left [_, _, _, _, _])⟩
end
end Go.Proofs.Ytghnbbpoaeheaaa
