/- BayCuts: one bay of one slot in memory, a cut at rows of keeps that the call lays, a sector of an image. -/
import Derived.Test.YtghnbbpoaeheaaaCutsLaw
import Derived.Test.YtghnbbpoaeheaaaAway
namespace Go.Proofs.Ytghnbbpoaeheaaa
open Go.RowKit

/-- A cut at a row of keeps that the call itself has laid. -/
theorem Sole.cutRow {W w : World} {b : Nat} {B : By} {L : List (Value × List Int)} (h : Sole W b B L w) (hs : B.Small 1000000) {kl : List (Value × List Bool)} (hkl : ∀ q ∈ kl, BoolsAt W q.1 q.2) (hf : kl.length ≤ far) {cs : Array Value} (hcs : cs = (kl.map (·.1)).toArray) {n : Nat} (hn : n = kl.length) :
    Calls Try.prog 33 #[.pointer (some ⟨b, 0, none⟩), .slice (some ⟨w.heap.size, 0, none⟩) n n] (w.alloc (.cells cs 57)) (Gives fun v w' => v = .tuple #[] ∧ Sole W b (B.cutg kl) L w') := by
  subst hcs hn
  have hW : Keep (Old W) W (w.alloc (.cells (kl.map (·.1)).toArray 57)) := (Many.old h).ofNoF (Keep.alloc _ _ _)
  have h2 : Many W (w.alloc (.cells (kl.map (·.1)).toArray 57)) 1 (fun _ => b) (fun _ => B) L := Many.quiet h (Keep.alloc _ _ _)
  obtain ⟨F, hb, hF, hst⟩ := Many.step h2 0 (by omega)
  refine Gives.imp (cutg_core hb (kc := kl.length) (kl := kl) hf (fun wr F1 hk1 hF1 i hi => ?_) hs) fun v w' hg => ⟨hg.1, (hst _ _ hg.2).1.one⟩
  have hnew := heap_alloc_new w (.cells (kl.map (·.1)).toArray 57)
  have hrow := hk1.at hnew (hb.apart_of_type hnew (by decide))
  obtain ⟨⟨v, l⟩, hq⟩ : ∃ q, kl[i]? = some q := ⟨_, List.getElem?_eq_getElem hi⟩
  have e : keepsFor kl i = l := by unfold keepsFor; rw [hq]
  have hk := hkl _ (List.mem_of_getElem? hq)
  rw [e]
  obtain ⟨a, c, hv, -, h3⟩ := id hk
  simp only at hv h3 hk
  subst hv
  refine ⟨w.heap.size, 0, a, c, rfl, cell_at hrow (0 + i) (by simp [hq]), hk.old (hW.trans' (hk1.mono fun x _ hx => hF x hx)), fun a' n c' he hne hf => ?_⟩
  obtain ⟨b2, o2, rfl, hr2⟩ := h3 hne
  simp only [Value.slice.injEq] at he
  obtain ⟨y, hy⟩ := List.exists_mem_of_ne_nil _ hne
  obtain ⟨j, hj, rfl⟩ := List.mem_iff_getElem.1 hy
  have hlt := World.block_lt_of_cell? W ⟨b2, o2 + j, none⟩ (hr2 j (.bool l[j]) (by simp [hj]))
  have e1 : a' = ⟨b2, o2, none⟩ := (Option.some.inj he.1).symm
  subst e1
  have hsz := hW.size
  rcases hF1 _ hf with hx | hx
  · have := hF _ hx; simp only at this hlt; omega
  · simp only at hx hlt; omega

theorem oneAt {w : World} {g : Nat} {x : Int} (h : w.heap[g]? = some (.cells #[.int .i64 x] 3 (0, 0))) : IntsAt w (.slice (some ⟨g, 0, none⟩) 1 1) [x] :=
  ⟨_, _, rfl, by simp [maxLen], fun _ => ⟨g, 0, rfl, range_at h 0 _ rfl⟩⟩
theorem new_one {W w : World} (h : Many W w 0 (fun _ => 0) (fun _ => B0) []) (x : Int) :
    Calls Try.prog 24 #[.slice (some ⟨w.heap.size, 0, none⟩) 1 1] (w.alloc (.cells #[.int .i64 x] 3)) (Gives fun r w' =>
      (sizeOk x ∧ ∃ b, r = .tuple #[.pointer (some ⟨b, 0, none⟩), .int .u16 0] ∧ Sole W b (By.fresh [x] 1) [] w') ∨
      (¬ sizeOk x ∧ r = .tuple #[.pointer none, .int .u16 40] ∧ Many W w' 0 (fun _ => 0) (fun _ => B0) [])) :=
  Gives.imp ((h.quiet (Keep.alloc NoF w (.cells #[.int .i64 x] 3))).new (oneAt (x := x) (heap_alloc_new w _))) fun r w' hg => by
    rcases hg with ⟨_, _, h3, b, h4, h5⟩ | ⟨h1, h2, h3⟩
    · refine .inl ⟨h3 x (by simp), b, h4, ?_⟩
      obtain ⟨F, k1, k2, k3, k4, k5⟩ := h5
      refine ⟨F, fun i hi => ?_, k2, k3, k4, k5⟩
      have := k1 i hi
      obtain rfl : i = 0 := by omega
      exact this
    · refine .inr ⟨fun h => ?_, by simpa using h2, h3⟩
      rcases h1 with h1 | h1
      · simp at h1
      · exact h1 (by simpa using h)
theorem new_one_ok {W w : World} (h : Many W w 0 (fun _ => 0) (fun _ => B0) []) {x : Int} (hx : sizeOk x) :
    Calls Try.prog 24 #[.slice (some ⟨w.heap.size, 0, none⟩) 1 1] (w.alloc (.cells #[.int .i64 x] 3)) (Gives fun r w' => ∃ b, r = .tuple #[.pointer (some ⟨b, 0, none⟩), .int .u16 0] ∧ Sole W b (By.fresh [x] 1) [] w') :=
  Gives.imp (new_one h x) fun r w' hg => by
    rcases hg with ⟨_, hg⟩ | ⟨hn, _⟩
    · exact hg
    · exact absurd hx hn
theorem new_one_bad {W w : World} (h : Many W w 0 (fun _ => 0) (fun _ => B0) []) {x : Int} (hx : ¬ sizeOk x) :
    Calls Try.prog 24 #[.slice (some ⟨w.heap.size, 0, none⟩) 1 1] (w.alloc (.cells #[.int .i64 x] 3)) (Gives fun r w' => r = .tuple #[.pointer none, .int .u16 40] ∧ Many W w' 0 (fun _ => 0) (fun _ => B0) []) :=
  Gives.imp (new_one h x) fun r w' hg => by
    rcases hg with ⟨hn, _⟩ | ⟨_, hg⟩
    · exact absurd hn hx
    · exact hg

theorem length_sector {l : List Int} {k : Nat} (h : 128 * (k + 1) ≤ l.length) : (sector l k).length = 128 := by unfold sector; simp; omega
theorem BytesAt.sector {w : World} {bb o cap : Nat} {l : List Int} (h : BytesAt w (.slice (some ⟨bb, o, none⟩) l.length cap) l) {k : Nat} (hk : 128 * (k + 1) ≤ l.length) : BytesAt w (.slice (some ⟨bb, o + 128 * k, none⟩) 128 (cap - 128 * k)) (sector l k) := by
  obtain ⟨a, c, hv, h1, h2, h3⟩ := h
  simp only [Value.slice.injEq, true_and] at hv
  obtain ⟨rfl, rfl⟩ := hv
  refine ⟨_, _, by rw [length_sector hk], by rw [length_sector hk]; omega, by omega, fun _ => ⟨bb, o + 128 * k, rfl, fun j v hj => ?_⟩⟩
  obtain ⟨bb', o', e, hr⟩ := h3 (by rintro rfl; simp at hk)
  simp only [Option.some.injEq, Addr.mk.injEq, and_true] at e
  obtain ⟨rfl, rfl⟩ := e
  have hj1 : j < 128 := by have := (List.getElem?_eq_some_iff.1 hj).1; simpa [length_sector hk] using this
  have : (u8s l)[128 * k + j]? = some v := by
    rw [← hj]
    simp only [u8s, Go.Proofs.Ytghnbbpoaeheaaa.sector, List.getElem?_map, List.getElem?_take, List.getElem?_drop, if_pos hj1]
  have := hr (128 * k + j) v this
  rwa [show o + (128 * k + j) = o + 128 * k + j by omega] at this

/-- The sectors of an image that the call holds. -/
theorem Sole.sectorsAt {W w : World} {b : Nat} {B : By} {L : List (Value × List Int)} {x : Option Addr} {n cap m : Nat} {l : List Int} (h : Sole W b B L w) (hm : (Value.slice x n cap, l) ∈ L) (hl : l.length = n) (hn : n = 128 * m) (h1 : 1 ≤ m) :
    ∃ bb o, x = some ⟨bb, o, none⟩ ∧ 128 * m ≤ cap ∧ cap ≤ maxLen ∧ ∀ w', Keep NoF w w' → ∀ k, k < m → BytesAt w' (.slice (some ⟨bb, o + 128 * k, none⟩) (128 * (k + 1) - 128 * k) (cap - 128 * k)) (sector l k) := by
  have hb := Many.bytes h hm
  obtain ⟨a, c, hv, h2, h3, h4⟩ := id hb
  have hne : l ≠ [] := by rintro rfl; simp at hl; omega
  obtain ⟨bb, o, rfl, -⟩ := h4 hne
  simp only [Value.slice.injEq] at hv
  obtain ⟨rfl, -, rfl⟩ := hv
  refine ⟨bb, o, rfl, by omega, h3, fun w' hk k hlt => ?_⟩
  subst hl
  rw [show 128 * (k + 1) - 128 * k = 128 by omega]
  exact BytesAt.sector (BytesAt.keep hb hk (fun _ _ _ _ h => h)) (by omega)

/-- How far BayCuts' first loop has come. -/
def CutsAt (W : World) (b : Nat) (ops : List OpD) (at_ : Int) (m i : Nat) (w : World) : Prop := ∃ B, Sole W b B [] w ∧ Cuts ops at_ m i B ∧ B.Small (2 * i)
theorem cuts_start {ops : List OpD} {at_ s : Int} (hs : s ≠ 0) : Cuts ops at_ s.toNat 0 (By.fresh [s] 1) :=
  ⟨rfl, ⟨rfl, rfl⟩, ⟨Dk.new s.toNat, by simp [By.fresh, freshDev, hs], rfl, by simp [Dk.new], fun x hx => by have := (List.mem_replicate.1 hx).2; subst this; simp, fun e he => (by cases he), fun e he => (by cases he)⟩, by simp [By.fresh]⟩
theorem flush_empties {B : By} (hn : B.n = 1) (hc : B.Calm) {D : Dk} (h1 : B.dev 0 = some ⟨D, false, 0⟩) (hf : D.failed = false) : ∀ E, (B.op 0 5 Dk.flush).dev 0 = some ⟨E, false, 0⟩ → E.cache = [] := by
  intro E hE
  have e : B.op 0 5 Dk.flush = (B.tick 5).setDev 0 (some ⟨D.flush, false, 0⟩) := by
    rw [calm_op hc (is01 hn) (e := ⟨D, false, 0⟩) h1]
    rfl
  have ef : D.flush = D.settle (fun _ => true) := by unfold Dk.flush; rw [hf]; rfl
  rw [e] at hE
  have : D.flush = E := by simpa [By.setDev] using hE
  rw [← this, ef]; rfl
theorem flush_cache (D : Dk) : D.flush.cache.length ≤ D.cache.length + 1 := by unfold Dk.flush; split <;> simp [Dk.settle]
end Go.Proofs.Ytghnbbpoaeheaaa
