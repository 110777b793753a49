/- The bay's functions, walked: Flush, Write, Read. -/
import Derived.Test.YtghnbbpoaeheaaaBay4w
import Derived.Test.YtghnbbpoaeheaaaBay4r
namespace Go.Proofs.Ytghnbbpoaeheaaa
open Go.RowKit

theorem BytesAt.keep2 {w w' : World} {v : Value} {l : List Int} {G : Nat → Prop} (h : BytesAt w v l) (hk : Keep G w w') (hG : l ≠ [] → ∀ a n c, v = .slice (some a) n c → ¬ G a.block) : BytesAt w' v l := by
  obtain ⟨a, cap, hv, h1, h2, h3⟩ := h
  refine ⟨a, cap, hv, h1, h2, fun hl => ?_⟩
  obtain ⟨bb, o, ha, hr⟩ := h3 hl
  refine ⟨bb, o, ha, fun j u hu => ?_⟩
  have hc := hr j u hu
  have hb := World.block_lt_of_cell? w _ hc
  rw [World.cell?_of_block (w := w) (hk.block bb hb (by subst ha; exact hG hl _ _ _ hv))]
  exact hc

/-- The elements' types of a bay's own blocks. -/
def bayTypes : List Nat := [130, 135, 133, 100, 102, 142]
theorem DiskAt.apart_of_type {w : World} {b : Nat} {D : Dk} {F : Nat → Prop} (h : DiskAt w b D F) {x : Nat} {cs : Array Value} {t : TypeId} {fr : Nat × Nat} (hx : w.heap[x]? = some (.cells cs t fr)) (ht : t ∉ bayTypes) : ¬ F x := by
  obtain ⟨bL, bS, csl, es, ck, h1, h2, h3, _, h5, hF, _⟩ := h
  intro hf
  have key : ∀ (ca : Array Value) (ta : TypeId) (fa : Nat × Nat), w.heap[x]? = some (.cells ca ta fa) → ta ∈ bayTypes → False := fun ca ta fa ha hm => by
    rw [hx] at ha
    simp at ha
    exact ht (ha.2.1 ▸ hm)
  rcases (hF x).1 hf with rfl | rfl | rfl | hc
  · exact key _ _ _ h1 (by decide)
  · exact key _ _ _ h2 (by decide)
  · rw [hx] at h3; simp at h3
  · obtain ⟨cs', hcs⟩ := own_elem h5 hc
    exact key _ _ _ hcs (by decide)
theorem DevAt.apart_of_type {w : World} {v : Value} {d : Option Dev} {F : Nat → Prop} (h : DevAt w v d F) {x : Nat} {cs : Array Value} {t : TypeId} {fr : Nat × Nat} (hx : w.heap[x]? = some (.cells cs t fr)) (ht : t ∉ bayTypes) : ¬ F x := by
  cases d with
  | none => exact h.2 x
  | some d =>
    obtain ⟨bv, bd, Fd, h1, h2, h3, h4, h5⟩ := h
    intro hf
    rcases (h5 x).1 hf with rfl | hf
    · rw [hx] at h2; simp at h2; exact ht (h2.2.1 ▸ by decide)
    · exact h3.apart_of_type hx ht hf
theorem BayAt.apart_of_type {w : World} {b : Nat} {B : By} {F : Nat → Prop} (h : BayAt w b B F) {x : Nat} {cs : Array Value} {t : TypeId} {fr : Nat × Nat} (hx : w.heap[x]? = some (.cells cs t fr)) (ht : t ∉ bayTypes) : ¬ F x := by
  obtain ⟨bs, ptr, Fs, h⟩ := h
  intro hf
  rcases (h.hF x).1 hf with rfl | rfl | ⟨j, hj⟩
  · have := h.hb; rw [hx] at this; simp at this; exact ht (this.2.1 ▸ by decide)
  · have := h.hs; rw [hx] at this; simp at this; exact ht (this.2.1 ▸ by decide)
  · exact (h.dev j).apart_of_type hx ht hj

section
variable {w : World} {b : Nat} {B : By} {F : Nat → Prop}
theorem OpPost.bay {k : Int} {ci : Nat} {g : Dk → Dk} {G : Nat → Prop} {E : Dk → World → World → Prop} {w0 w' : World} (h : OpPost w b B k ci g F G E w') (hk : Keep F w0 w) (hG : ∀ x, x < w0.heap.size → ¬ G x) : BayPost w0 b (B.op k ci g) F w' := by
  obtain ⟨⟨F', h1, h2, h3⟩, _⟩ := h
  refine ⟨F', h1, hk.trans h2 fun x hx e => e.resolve_right (hG x hx), fun x hx => (h3 x hx).imp id (fun h => Nat.le_trans hk.size h)⟩

theorem bflush_any (h : BayAt w b B F) (k : Int) (hcnt : 0 ≤ B.cf ∧ B.cf ≤ 1000000) (hcl : ∀ j d, B.dev j = some d → d.disk.cache.length ≤ 1000000) :
    Calls Try.prog 42 #[.pointer (some ⟨b, 0, none⟩), .int .i64 k] w (Gives (CodePost (B.opcode k Dk.fcode) (BayPost w b (B.op k 5 Dk.flush) F))) := by
  have HO := Lib.hid (operate_any_91 h k hcnt hcl Dk.fcode Dk.flush NoF (fun _ _ h => h) (fun _ _ _ => True) (fun w1 v d F1 _ _ hd hc => (do_flush hd hc).mono fun e w' hg => by
    obtain ⟨v, rfl, rfl, hp⟩ := hg
    exact ⟨_, rfl, rfl, hp, trivial⟩))
  have HB : Hid (∀ w', OpPost w b B k 5 Dk.flush F NoF (fun _ _ _ => True) w' → BayPost w b (B.op k 5 Dk.flush) F w') := fun w' hp => hp.bay (Keep.refl _ _) (fun _ _ h => h)
  clear h hcnt hcl
  generalize B.opcode k Dk.fcode = cc at *
  go_enter Try.func42, Try.ntmps42
  go_wp2_with (go_at_call 87; go_must (refine HO.out.mono ?_); rintro e w' ⟨v, rfl, rfl, hp⟩; have HP := Lib.hid hp; clear hp)
  go_ret
  exact ⟨_, rfl, rfl, HB.out _ HP.out⟩

set_option maxHeartbeats 400000 in
theorem bwrite_any (h : BayAt w b B F) (k at_ : Int) (v : Value) (xs : List Int) (hv : BytesAt w v xs) (hvF : xs ≠ [] → ∀ a n c, v = .slice (some a) n c → ¬ F a.block) (hcnt : 0 ≤ B.cw ∧ B.cw ≤ 1000000) (hcl : ∀ j d, B.dev j = some d → d.disk.cache.length ≤ 1000000) :
    Calls Try.prog 41 #[.pointer (some ⟨b, 0, none⟩), .int .i64 k, .int .i64 at_, v] w (Gives (CodePost (B.opcode k (fun D => D.wcode at_ xs.length)) (BayPost w b (B.op k 4 (fun D => D.write at_ xs)) F))) := by
  have hlt := h.lt
  have hk2 : Keep NoF w ((w.alloc (.cells #[.int .i64 at_] 3)).alloc (.cells #[v] 22)) := (Keep.alloc _ _ _).trans' (Keep.alloc _ _ _)
  have h2 := h.keep hk2 (fun _ _ h => h)
  have hv2 := hv.keep2 hk2 (fun _ _ _ _ _ h => h)
  have hF1 : ¬ F w.heap.size := fun hx => by have := hlt _ hx; omega
  have hF2 : ¬ F (w.heap.size + 1) := fun hx => by have := hlt _ hx; omega
  have e1 := Below.heap_alloc (w.alloc (.cells #[.int .i64 at_] 3)) (.cells #[v] 22) w.heap.size (by simp)
  rw [heap_alloc_new w (.cells #[.int .i64 at_] 3)] at e1
  have e2 := heap_alloc_new (w.alloc (.cells #[.int .i64 at_] 3)) (.cells #[v] 22)
  rw [show (w.alloc (.cells #[.int .i64 at_] 3)).heap.size = w.heap.size + 1 by simp] at e2
  have hsz : ((w.alloc (.cells #[.int .i64 at_] 3)).alloc (.cells #[v] 22)).heap.size = w.heap.size + 2 := by simp
  have HO := Lib.hid (operate_any_89 h2 k w.heap.size (w.heap.size + 1) hcnt hcl (fun D => D.wcode at_ xs.length) (fun D => D.write at_ xs) NoF (fun _ _ h => h) (fun _ _ _ => True) (fun w1 v1 d F1 hk hF hd hc => by
    have c1 := hk.at e1 hF1
    have c2 := hk.at e2 hF2
    refine (do_write hd w.heap.size (w.heap.size + 1) at_ v xs (cell_at c1 0 rfl) (cell_at c2 0 rfl) (hv2.keep2 hk hvF) hc (fun hx => ?_) (fun hx => ?_)).mono fun e w' hg => ?_
    · rcases hF _ hx with hx | hx
      · exact hF1 hx
      · omega
    · rcases hF _ hx with hx | hx
      · exact hF2 hx
      · omega
    · obtain ⟨v, rfl, rfl, hp⟩ := hg
      exact ⟨_, rfl, rfl, hp, trivial⟩))
  have HB : Hid (∀ w', OpPost ((w.alloc (.cells #[.int .i64 at_] 3)).alloc (.cells #[v] 22)) b B k 4 (fun D => D.write at_ xs) F NoF (fun _ _ _ => True) w' → BayPost w b (B.op k 4 (fun D => D.write at_ xs)) F w') := fun w' hp => hp.bay (hk2.mono fun _ _ h => h.elim) (fun _ _ h => h)
  obtain ⟨a, cap, rfl, _⟩ := hv
  clear h hcnt hcl hvF hlt hk2 h2 hv2 hF1 hF2 e1 e2 hsz
  generalize B.opcode k (fun D => D.wcode at_ xs.length) = cc at *
  go_enter Try.func41, Try.ntmps41
  go_wp2_with (go_at_call 87; go_must (refine HO.out.mono ?_); rintro e w' ⟨v, rfl, rfl, hp⟩; have HP := Lib.hid hp; clear hp)
  go_ret
  exact ⟨_, rfl, rfl, HB.out _ HP.out⟩

def By.readB (B : By) (k at_ : Int) : List Int := match B.reach k with | none => [] | some d => d.disk.read at_
def BReadPost (w : World) (b : Nat) (B : By) (F : Nat → Prop) (k at_ : Int) (v : Value) (w' : World) : Prop :=
  ∃ s, v = .tuple #[s, .int .u16 (B.opcode k (fun D => D.code at_))] ∧ OwnB w' w.heap.size s (B.readB k at_) ∧
    ∃ F', BayAt w' b (B.op k 3 id) F' ∧ Keep F w w' ∧ (∀ x, F' x → F x ∨ w.heap.size ≤ x) ∧ ∀ x, s.ownBlock = some x → ¬ F' x

set_option maxHeartbeats 400000 in
theorem bread_any (h : BayAt w b B F) (k at_ : Int) (hcnt : 0 ≤ B.cr ∧ B.cr ≤ 1000000) (hcl : ∀ j d, B.dev j = some d → d.disk.cache.length ≤ 1000000) :
    Calls Try.prog 47 #[.pointer (some ⟨b, 0, none⟩), .int .i64 k, .int .i64 at_] w (Gives (BReadPost w b B F k at_)) := by
  have hlt := h.lt
  have hk2 : Keep NoF w ((w.alloc (.cells #[.int .i64 at_] 3)).alloc (.cells #[.slice none 0 0] 22)) := (Keep.alloc _ _ _).trans' (Keep.alloc _ _ _)
  have h2 := h.keep hk2 (fun _ _ h => h)
  have hF1 : ¬ F w.heap.size := fun hx => by have := hlt _ hx; omega
  have hF2 : ¬ F (w.heap.size + 1) := fun hx => by have := hlt _ hx; omega
  have e1 := Below.heap_alloc (w.alloc (.cells #[.int .i64 at_] 3)) (.cells #[.slice none 0 0] 22) w.heap.size (by simp)
  rw [heap_alloc_new w (.cells #[.int .i64 at_] 3)] at e1
  have e2 := heap_alloc_new (w.alloc (.cells #[.int .i64 at_] 3)) (.cells #[.slice none 0 0] 22)
  rw [show (w.alloc (.cells #[.int .i64 at_] 3)).heap.size = w.heap.size + 1 by simp] at e2
  have hsz : ((w.alloc (.cells #[.int .i64 at_] 3)).alloc (.cells #[.slice none 0 0] 22)).heap.size = w.heap.size + 2 := by simp
  have ho := operate_any_95 h2 k w.heap.size (w.heap.size + 1) hcnt hcl (fun D => D.code at_) id (· = w.heap.size + 1) (fun x hx e => hF2 (e ▸ hx)) (fun D w1 w2 => ReadLeft w1 (w.heap.size + 1) (D.read at_) w2) (fun w1 v1 d F1 hk hF hd hc => by
    have c1 := hk.at e1 hF1
    have c2 := hk.at e2 hF2
    have hn2 : ¬ F1 (w.heap.size + 1) := fun hx => by
      rcases hF _ hx with hx | hx
      · exact hF2 hx
      · omega
    refine (do_read hd w.heap.size (w.heap.size + 1) at_ (cell_at c1 0 rfl) c2 (by omega) hn2).mono fun e w' hg => ?_
    obtain ⟨v, rfl, rfl, hp⟩ := hg
    obtain ⟨s, p1, p2, p3⟩ := id hp
    exact ⟨_, rfl, rfl, ⟨F1, hd.keep p3 (fun x hx e => hn2 (e ▸ hx)), p3.mono fun x _ e => .inr e, fun _ hx => .inl hx⟩, hp⟩)
  -- what the variable holds behind the operation
  have ho' : Calls Try.prog 87 #[.pointer (some ⟨b, 0, none⟩), .int .i64 k, .func (.func 94) #[] #[], .func (.func 95) #[] #[.pointer (some ⟨w.heap.size, 0, none⟩), .pointer (some ⟨w.heap.size + 1, 0, none⟩)]] ((w.alloc (.cells #[.int .i64 at_] 3)).alloc (.cells #[.slice none 0 0] 22))
      fun e w' => ∃ a n c, e = .returned (.int .u16 (B.opcode k (fun D => D.code at_))) ∧ w'.cell? ⟨w.heap.size + 1, 0, none⟩ = some (.slice a n c) ∧ w'.frozen? ⟨w.heap.size + 1, 0, none⟩ = false ∧
        Hid (BReadPost w b B F k at_ (.tuple #[.slice a n c, .int .u16 (B.opcode k (fun D => D.code at_))]) (w'.setCell ⟨w.heap.size + 1, 0, none⟩ (.slice a n c))) := by
    refine ho.mono fun e w' hg => ?_
    obtain ⟨v, rfl, rfl, ⟨F', q1, q2, q3⟩, q4⟩ := hg
    have hF'2 : ¬ F' (w.heap.size + 1) := fun hx => by
      rcases q3 _ hx with hx | hx
      · exact hF2 hx
      · omega
    have fin : ∀ a n c, w'.heap[w.heap.size + 1]? = some (.cells #[.slice a n c] 22 (0, 0)) → OwnB w' w.heap.size (.slice a n c) (B.readB k at_) → (∀ x, (Value.slice a n c).ownBlock = some x → ¬ F' x ∧ x ≠ w.heap.size + 1) →
        BReadPost w b B F k at_ (.tuple #[.slice a n c, .int .u16 (B.opcode k (fun D => D.code at_))]) (w'.setCell ⟨w.heap.size + 1, 0, none⟩ (.slice a n c)) := fun a n c r1 r2 r3 => by
      have hks : Keep (· = w.heap.size + 1) w' (w'.setCell ⟨w.heap.size + 1, 0, none⟩ (.slice a n c)) := Keep.setCell _ _ _ rfl
      refine ⟨_, rfl, ownsRow_keep r2 hks (fun x hx e => (r3 x hx).2 e), F', q1.keep hks (fun x hx e => hF'2 (e ▸ hx)), ?_, fun x hx => (q3 x hx).imp id (fun h => by omega), fun x hx => (r3 x hx).1⟩
      exact ((hk2.mono (G := F) fun _ _ h => h.elim).trans q2 fun x hx e => e.resolve_right (by intro e; omega)).trans hks fun x hx e => by have : x = w.heap.size + 1 := e; omega
    cases hr : B.reach k with
    | none =>
      rw [hr] at q4
      have c2 := q4.at e2 hF2
      refine ⟨none, 0, 0, rfl, cell_at c2 0 rfl, free_at c2 0, fin none 0 0 c2 ?_ (by intro x hx; cases hx)⟩
      unfold By.readB
      rw [hr]
      exact World.ownsRow_nil _ _ _ _
    | some d =>
      rw [hr] at q4
      obtain ⟨w1, hs1, s, p1, p2, p3⟩ := q4
      obtain ⟨a, c, rfl⟩ := own_form p2
      refine ⟨a, _, c, rfl, cell_at p1 0 rfl, free_at p1 0, fin _ _ _ p1 ?_ (fun x hx => ?_)⟩
      · unfold By.readB
        rw [hr]
        exact p2.mono (by omega)
      · have hge := ownBlock_ge p2 hx
        obtain ⟨cs, hcs⟩ := own_elem p2 hx
        exact ⟨q1.apart_of_type hcs (by decide), by omega⟩
  have HO := Lib.hid ho'
  clear h hcnt hcl hlt hk2 h2 hF1 hF2 e1 e2 hsz ho ho'
  generalize B.opcode k (fun D => D.code at_) = cc at *
  go_enter Try.func47, Try.ntmps47
  go_wp2_with (go_at_call 87; go_must (refine HO.out.mono ?_); rintro e w' ⟨a, n, c, rfl, r1, r2, hp⟩)
  refine bodyPost_ret (v := .tuple #[.slice a n c, .int .u16 cc]) ?_ rfl ⟨_, rfl, hp.out⟩
  have hc := World.cell?_setCell_same w' ⟨w.heap.size + 1, 0, none⟩ (.slice a n c) r1
  simp [results, Try.results47, go_sem, hc]
end
end Go.Proofs.Ytghnbbpoaeheaaa
