/- Arguments opened: ints, bytes, keeps, scripts as the walks ask them. -/
import Derived.Test.YtghnbbpoaeheaaaBay9
import Derived.Test.YtghnbbpoaeheaaaRows
import Derived.ProofKit
import Derived.SizedLaws
import Derived.Deep.Slices
import Derived.Deep.Fields
import Derived.Carry
namespace Go.Proofs.Ytghnbbpoaeheaaa
open Go.RowKit Go.ChangeShapes Go.WideShapes Go.Deep

/-- No slice in a reading takes more bytes than the reach. -/
def Fits {H : Type} (t : TypeId) (d : DataW H) : Prop := ∀ n ∈ d.weights Try.prog t, n ≤ reachBytes
theorem weightsAll_mem {H : Type} {e : TypeId} : ∀ {ds : List (DataW H)} {d : DataW H}, d ∈ ds → ∀ n ∈ d.weights Try.prog e, n ∈ DataW.weightsAll Try.prog e ds
  | x :: r, d, hd, n, hn => by
    simp only [DataW.weightsAll, List.mem_append]
    rcases List.mem_cons.1 hd with rfl | hd
    · exact .inl hn
    · exact .inr (weightsAll_mem hd n hn)
theorem Fits.slice {H : Type} {t e : TypeId} {els sp : List (DataW H)} (h : Fits t (.slice els sp)) (ht : Try.prog.underlying t = some (.slice e)) : (els.length + sp.length) * Try.prog.bytesOf e ≤ reachBytes ∧ ∀ d, (d ∈ els ∨ d ∈ sp) → Fits e d := by
  unfold Fits at h
  simp only [DataW.weights, ht, List.mem_cons, List.mem_append] at h
  exact ⟨h _ (.inl rfl), fun d hd n hn => h n (.inr (hd.imp (fun hd => weightsAll_mem hd n hn) (fun hd => weightsAll_mem hd n hn)))⟩
theorem Fits.field {H : Type} {t : TypeId} {fs : Array Field} {ds : List (DataW H)} (h : Fits t (.agg ds)) (ht : Try.prog.underlying t = some (.struct fs)) {j : Nat} {f : Field} {d : DataW H} (hf : fs[j]? = some f) (hd : ds[j]? = some d) : Fits f.type d := by
  intro n hn
  refine h n ?_
  simp only [DataW.weights, ht]
  exact DataW.weights_mem_each (j := j) (by simp [hf]) hd n hn

theorem by5 : Try.prog.bytesOf 5 = 1 := by kernel_rfl
theorem by4 : Try.prog.bytesOf 4 = 1 := by kernel_rfl
theorem by3 : Try.prog.bytesOf 3 = 8 := by kernel_rfl
theorem by57 : Try.prog.bytesOf 57 = 24 := by kernel_rfl
theorem by69 : 1 ≤ Try.prog.bytesOf 69 := of_decide_eq_true (by kernel_rfl)
theorem c5 : Try.prog.cellsOf 5 = 1 := by kernel_rfl
theorem c4 : Try.prog.cellsOf 4 = 1 := by kernel_rfl
theorem c3 : Try.prog.cellsOf 3 = 1 := by kernel_rfl
theorem c57 : Try.prog.cellsOf 57 = 1 := by kernel_rfl
theorem c69 : Try.prog.cellsOf 69 = 5 := by kernel_rfl

section
variable {H : Type} {enc : TypeId × Value → H} {W : World}
theorem plain_addr {a : Addr} {v : Value} (h : W.cell? a = some v) : a = ⟨a.block, a.off, none⟩ := by
  have := World.cell?_spot h
  obtain ⟨b, o, s⟩ := a
  simp only at this
  subst this
  rfl
theorem add_off (b o i : Nat) : (⟨b, o, none⟩ : Addr).add i = ⟨b, o + i, none⟩ := by
  unfold Addr.add; split
  · rename_i h; simp [h]
  · rfl

theorem open_bytes {fuel : Nat} {v : Value} {y : DataW H × List MemPlace} (h : DataW.trod enc Try.prog W 0 (fun _ => true) true fuel 22 [v] = some y) (hf : Fits 22 y.1) : ∃ l, BytesAt W v l ∧ l.length ≤ far := by
  rcases open_ints Try.underlying22 Try.underlying5 c5 h with ⟨hcs, hx⟩ | ⟨a, len, cap, zs, hcs, _, hl, hm, hz, hx, hcell, hwz⟩
  · obtain rfl : v = .slice none 0 0 := by simpa using hcs
    exact ⟨[], ⟨none, 0, rfl, Nat.le_refl _, by simp [maxLen], fun h => absurd rfl h⟩, Nat.zero_le _⟩
  · obtain rfl : v = .slice (some a) len cap := by simpa using hcs
    simp only [if_true] at hz
    subst hx
    have hw := (hf.slice Try.underlying22).1
    rw [by5] at hw
    simp only [lits, List.length_map, List.length_take, List.length_drop, reachBytes] at hw
    have hlen : (zs.take len).length = len := by simp; omega
    refine ⟨zs.take len, ⟨some a, cap, by rw [hlen], by rw [hlen]; exact hl, hm, fun hne => ?_⟩, by rw [hlen]; unfold far; omega⟩
    have h0 : 0 < len := by rw [← hlen]; exact List.length_pos_iff.2 hne
    have ha := plain_addr (a := a) (by simpa [Addr.add] using hcell 0 (by omega))
    refine ⟨a.block, a.off, by rw [← ha], fun j u hu => ?_⟩
    have hj : j < len := by
      have := (List.getElem?_eq_some_iff.1 hu).1
      simp [u8s] at this; omega
    have hc := hcell j (by omega)
    rw [ha, add_off] at hc
    rw [hc, ← hu]
    simp only [u8s, List.getElem?_map]
    rw [List.getElem?_take, if_pos hj, List.getElem?_eq_getElem (show j < zs.length by omega)]
    simp [List.getD, show j < zs.length by omega]
theorem open_ints76 {fuel : Nat} {v : Value} {y : DataW H × List MemPlace} (h : DataW.trod enc Try.prog W 0 (fun _ => true) true fuel 76 [v] = some y) (hf : Fits 76 y.1) : ∃ l, IntsAt W v l ∧ l.length ≤ far ∧ ∀ s ∈ l, inI64 s := by
  rcases open_ints Try.underlying76 Try.underlying3 c3 h with ⟨hcs, hx⟩ | ⟨a, len, cap, zs, hcs, _, hl, hm, hz, hx, hcell, hwz⟩
  · obtain rfl : v = .slice none 0 0 := by simpa using hcs
    exact ⟨[], ⟨none, 0, rfl, by simp [maxLen], fun h => absurd rfl h⟩, Nat.zero_le _, by simp⟩
  · obtain rfl : v = .slice (some a) len cap := by simpa using hcs
    simp only [if_true] at hz
    subst hx
    have hw := (hf.slice Try.underlying76).1
    rw [by3] at hw
    simp only [lits, List.length_map, List.length_take, List.length_drop, reachBytes] at hw
    have hlen : (zs.take len).length = len := by simp; omega
    refine ⟨zs.take len, ⟨some a, cap, by rw [hlen], by rw [hlen]; omega, fun hne => ?_⟩, by rw [hlen]; unfold far; omega, fun s hs => ?_⟩
    · have h0 : 0 < len := by rw [← hlen]; exact List.length_pos_iff.2 hne
      have ha := plain_addr (a := a) (by simpa [Addr.add] using hcell 0 (by omega))
      refine ⟨a.block, a.off, by rw [← ha], fun j u hu => ?_⟩
      have hj : j < len := by
        have := (List.getElem?_eq_some_iff.1 hu).1
        simp [ints] at this; omega
      have hc := hcell j (by omega)
      rw [ha, add_off] at hc
      rw [hc, ← hu]
      simp only [ints, List.getElem?_map]
      rw [List.getElem?_take, if_pos hj, List.getElem?_eq_getElem (show j < zs.length by omega)]
      simp [List.getD, show j < zs.length by omega]
    · have := hwz s (List.mem_of_mem_take hs)
      simp [Lit.wf, IntKind.min, IntKind.max, IntKind.signed, IntKind.bits] at this
      exact this

theorem open_bools {fuel : Nat} {v : Value} {y : DataW H × List MemPlace} (h : DataW.trod enc Try.prog W 0 (fun _ => true) true fuel 57 [v] = some y) (hf : Fits 57 y.1) : ∃ l, BoolsAt W v l ∧ l.length ≤ far := by
  rcases open_slice1 Try.underlying57 c4 h with ⟨hcs, hx⟩ | ⟨a, len, cap, m, n, V, D, Pl, hcs, _, hl, hm, hmm, hx, hcell⟩
  · obtain rfl : v = .slice none 0 0 := by simpa using hcs
    exact ⟨[], BoolsAt.nil _, Nat.zero_le _⟩
  · obtain rfl : v = .slice (some a) len cap := by simpa using hcs
    simp only [if_true] at hmm
    subst hmm hx
    have hw := (hf.slice Try.underlying57).1
    rw [by4] at hw
    simp only [List.length_map, List.length_range, reachBytes] at hw
    obtain ⟨B, hB⟩ := choose_lt (α := Bool) (p := fun i b => V i = .bool b) (n := m) (fun i hi => by
      obtain ⟨b, hb, _⟩ := DataW.trod_bool Try.underlying4 (hcell i hi).2
      exact ⟨b, by simpa using hb⟩)
    have hlen : ((List.range len).map B).length = len := by simp
    refine ⟨(List.range len).map B, ⟨some a, m, by rw [hlen], by rw [hlen]; omega, fun hne => ?_⟩, by rw [hlen]; unfold far; omega⟩
    have h0 : 0 < len := by rw [← hlen]; exact List.length_pos_iff.2 hne
    have ha := plain_addr (a := a) (by simpa [Addr.add] using (hcell 0 (by omega)).1)
    refine ⟨a.block, a.off, by rw [← ha], fun j u hu => ?_⟩
    have hj : j < len := by
      have := (List.getElem?_eq_some_iff.1 hu).1
      simpa using this
    have hc := (hcell j (by omega)).1
    rw [ha, add_off, hB j (by omega)] at hc
    rw [hc, ← hu]
    simp [hj]
theorem open_keeps {fuel : Nat} {v : Value} {y : DataW H × List MemPlace} (h : DataW.trod enc Try.prog W 0 (fun _ => true) true fuel 47 [v] = some y) (hf : Fits 47 y.1) : ∃ l, KeepsAt W v l := by
  rcases open_slice1 Try.underlying47 c57 h with ⟨hcs, hx⟩ | ⟨a, len, cap, m, n, V, D, Pl, hcs, _, hl, hm, hmm, hx, hcell⟩
  · obtain rfl : v = .slice none 0 0 := by simpa using hcs
    exact ⟨[], none, 0, rfl, Nat.zero_le _, fun h => absurd rfl h, by simp⟩
  · obtain rfl : v = .slice (some a) len cap := by simpa using hcs
    simp only [if_true] at hmm
    subst hmm hx
    obtain ⟨hw, hfs⟩ := hf.slice Try.underlying47
    rw [by57] at hw
    simp only [List.length_map, List.length_range, reachBytes] at hw
    obtain ⟨B, hB⟩ := choose_lt (α := List Bool) (p := fun i b => BoolsAt W (V i) b ∧ b.length ≤ far) (n := len) (fun i hi => by
      exact open_bools (hcell i (by omega)).2 (hfs _ (.inl (List.mem_map.2 ⟨i, List.mem_range.2 hi, rfl⟩))))
    have hlen : ((List.range len).map fun i => (V i, B i)).length = len := by simp
    refine ⟨(List.range len).map fun i => (V i, B i), some a, m, by rw [hlen], by rw [hlen]; unfold far; omega, fun hne => ?_, fun x hx => ?_⟩
    · have h0 : 0 < len := by rw [← hlen]; exact List.length_pos_iff.2 hne
      have ha := plain_addr (a := a) (by simpa [Addr.add] using (hcell 0 (by omega)).1)
      refine ⟨a.block, a.off, by rw [← ha], fun j u hu => ?_⟩
      have hj : j < len := by
        have := (List.getElem?_eq_some_iff.1 hu).1
        simpa using this
      have hc := (hcell j (by omega)).1
      rw [ha, add_off] at hc
      rw [hc, ← hu]
      simp [hj]
    · obtain ⟨i, hi, rfl⟩ := List.mem_map.1 hx
      exact hB i (List.mem_range.1 hi)
instance : Inhabited OpD := ⟨⟨0, 0, 0, .bool false, [], .bool false, []⟩⟩
theorem lit_i64 {n : Int} (h : (Lit.int .i64 n).wf = true) : inI64 n := by
  simp [Lit.wf, IntKind.min, IntKind.max, IntKind.signed, IntKind.bits] at h
  exact h
theorem under69 : ∃ f0 f1 f2 f3 f4, Try.prog.underlying 69 = some (.struct #[f0, f1, f2, f3, f4]) ∧ (f0.offset = 0 ∧ f0.type = 3) ∧ (f1.offset = 1 ∧ f1.type = 3) ∧ (f2.offset = 2 ∧ f2.type = 3) ∧ (f3.offset = 3 ∧ f3.type = 22) ∧ (f4.offset = 4 ∧ f4.type = 47) :=
  ⟨_, _, _, _, _, Try.underlying69, ⟨rfl, rfl⟩, ⟨rfl, rfl⟩, ⟨rfl, rfl⟩, ⟨rfl, rfl⟩, ⟨rfl, rfl⟩⟩
theorem c22 : Try.prog.cellsOf 22 = 1 := by kernel_rfl
theorem c47 : Try.prog.cellsOf 47 = 1 := by kernel_rfl
set_option maxRecDepth 100000 in
/-- One operation out of its five cells. -/
theorem open_op {fuel : Nat} {cs : List Value} {y : DataW H × List MemPlace} (h : DataW.trod enc Try.prog W 0 (fun _ => true) true fuel 69 cs = some y) (hlen : cs.length = 5) (hf : Fits 69 y.1) : ∃ d, cs = opCells d ∧ OpAt W d := by
  obtain ⟨f0, f1, f2, f3, f4, hu, ⟨o0, t0⟩, ⟨o1, t1⟩, ⟨o2, t2⟩, ⟨o3, t3⟩, ⟨o4, t4⟩⟩ := under69
  obtain ⟨xs, n, _, hx, _, hxl, hg⟩ := DataW.trod_struct hu h
  match cs, hlen with
  | [v0, v1, v2, v3, v4], _ =>
    match xs, hxl with
    | [y0, y1, y2, y3, y4], _ =>
      subst hx
      have g0 := hg 0 f0 rfl
      have g1 := hg 1 f1 rfl
      have g2 := hg 2 f2 rfl
      have g3 := hg 3 f3 rfl
      have g4 := hg 4 f4 rfl
      rw [o0, t0, c3] at g0
      rw [o1, t1, c3] at g1
      rw [o2, t2, c3] at g2
      rw [o3, t3, c22] at g3
      rw [o4, t4, c47] at g4
      obtain ⟨k, e0, _, w0⟩ := DataW.trod_int Try.underlying3 g0
      obtain ⟨s, e1, _, w1⟩ := DataW.trod_int Try.underlying3 g1
      obtain ⟨nn, e2, _, w2⟩ := DataW.trod_int Try.underlying3 g2
      have F3 : Fits 22 y3.1 := by
        have := hf.field hu (j := 3) (f := f3) (d := y3.1) rfl rfl
        rwa [t3] at this
      have F4 : Fits 47 y4.1 := by
        have := hf.field hu (j := 4) (f := f4) (d := y4.1) rfl rfl
        rwa [t4] at this
      obtain ⟨bl, hb, hbl⟩ := open_bytes (v := v3) (y := y3) g3 F3
      obtain ⟨kl, hk⟩ := open_keeps (v := v4) (y := y4) g4 F4
      simp at e0 e1 e2
      subst e0 e1 e2
      exact ⟨⟨k, s, nn, v3, bl, v4, kl⟩, rfl, lit_i64 w0, lit_i64 w1, lit_i64 w2, hb, hbl, hk⟩
theorem open_ops {fuel : Nat} {v : Value} {y : DataW H × List MemPlace} (h : DataW.trod enc Try.prog W 0 (fun _ => true) true fuel 61 [v] = some y) (hf : Fits 61 y.1) : ∃ l, OpsAt W v l := by
  rcases open_slice Try.underlying61 h with ⟨hcs, hx⟩ | ⟨a, len, cap, m, n, D, Pl, hcs, _, hl, hm, hmm, hx, hcell⟩
  · obtain rfl : v = .slice none 0 0 := by simpa using hcs
    exact ⟨[], none, 0, rfl, Nat.zero_le _, fun h => absurd rfl h, by simp⟩
  · obtain rfl : v = .slice (some a) len cap := by simpa using hcs
    simp only [if_true] at hmm
    subst hmm hx
    obtain ⟨hw, hfs⟩ := hf.slice Try.underlying61
    have h69 := by69
    simp only [List.length_map, List.length_range, reachBytes] at hw
    have hlw : len + (m - len) ≤ 140737488351232 := Nat.le_trans (Nat.le_mul_of_pos_right _ h69) hw
    obtain ⟨B, hB⟩ := choose_lt (α := OpD) (p := fun i d => OpAt W d ∧ ∀ j u, (opCells d)[j]? = some u → W.cell? (a.add (i * 5 + j)) = some u) (n := len) (fun i hi => by
      obtain ⟨cs', h1, h2⟩ := hcell i (by omega)
      rw [c69] at h1
      obtain ⟨_, h3, h4⟩ := World.cells?_some h1
      obtain ⟨d, rfl, hd⟩ := open_op h2 h3 (hfs _ (.inl (List.mem_map.2 ⟨i, List.mem_range.2 hi, rfl⟩)))
      refine ⟨d, hd, fun j u hu => ?_⟩
      have hj := (List.getElem?_eq_some_iff.1 hu).1
      have := h4 j (by rw [← h3]; exact hj)
      rw [add_add] at this
      rw [this, hu])
    have hlen : ((List.range len).map B).length = len := by simp
    refine ⟨(List.range len).map B, some a, m, by rw [hlen], by rw [hlen]; unfold far; omega, fun hne => ?_, fun x hx => ?_⟩
    · have h0 : 0 < len := by rw [← hlen]; exact List.length_pos_iff.2 hne
      have ha := plain_addr (a := a) (by simpa [Addr.add] using (hB 0 h0).2 0 _ rfl)
      refine ⟨a.block, a.off, by rw [← ha], fun i d hd j u hu => ?_⟩
      have hi : i < len := by
        have := (List.getElem?_eq_some_iff.1 hd).1
        simpa using this
      obtain rfl : B i = d := by simpa [hi] using hd
      have hc := (hB i hi).2 j u hu
      rw [ha, add_off] at hc
      rw [show a.off + i * 5 + j = a.off + (i * 5 + j) by omega]
      exact hc
    · obtain ⟨i, hi, rfl⟩ := List.mem_map.1 hx
      exact (hB i (List.mem_range.1 hi)).1
set_option maxRecDepth 100000 in
/-- A slice's value, out of its type. -/
theorem trod_one {t e : TypeId} (ht : Try.prog.underlying t = some (.slice e)) {base : Nat} {v : Value} {d : DataW H} {p : List MemPlace} (hv : Value.okWide Try.prog W .any base t v) (h : DataW.Trod enc Try.prog W 0 (fun _ => true) true t v d p) : ∃ fuel, DataW.trod enc Try.prog W 0 (fun _ => true) true fuel t [v] = some (d, p) := by
  obtain ⟨a, len, cap, rfl⟩ := okWide_slice ht hv
  obtain ⟨fuel, hf⟩ := h
  exact ⟨fuel, hf⟩
end
end Go.Proofs.Ytghnbbpoaeheaaa
