/- The document's disk, walked: Write. -/
import Derived.Test.YtghnbbpoaeheaaaDL12
import Derived.Test.YtghnbbpoaeheaaaDL15
import Derived.Maps.AppendAt
import Derived.StillTailTactics
import Derived.Deep.RegionLaw
namespace Go.Proofs.Ytghnbbpoaeheaaa
open Go.RowKit

theorem i151 : (Try.prog.info? 151).map (fun i => (i.zero, i.size, i.bytes)) = some (some (.agg #[.int .i64 0, .slice none 0 0]), 2, 32) := by kernel_rfl
section
variable {ops : Array Oper} {rest : List Oper} {o : Oper} {a : Act} {w : World} {Q : Exit → Act → World → Prop}
theorem wpList_app103 (hgd : o.guard = none) (s x : Operand) (ho : o.op = .call { callee := .builtin .append, args := #[s, x], argTypes := #[103, 103] })
    (base : Nat) (v : Value) (n : Nat) (xs : List Value) (hs : a.eval s = v) (hown : w.ownsRow base 151 2 v n xs)
    (ad : Addr) (c : Nat) (news : List Value) (hx : a.eval x = .slice (some ad) 1 c) (hl : news.length = 2) (hnews : ∀ j u, news[j]? = some u → w.cell? (ad.add j) = some u) (h1 : ∀ u ∈ news, u.oneCell' = true)
    (hb : n ≤ 1073741824) (hbase : base ≤ w.heap.size)
    (h : ∀ v' w', w'.ownsRow base 151 2 v' (n + 1) (xs ++ news) → w.grownBy w' v.ownBlock → (v'.ownBlock = v.ownBlock ∨ v'.ownBlock = some w.heap.size) → wpList Try.prog ops Q rest (a.put o.dst v') w') : wpList Try.prog ops Q (o :: rest) a w := by
  obtain ⟨i, hi, he⟩ := info_of i151
  simp only [Prod.mk.injEq] at he
  exact wpList_append_own_at w hgd s x 103 ho base 151 i _ 2 32 Try.underlying103 hi he.1 he.2.1 he.2.2 rfl (by decide) v n xs hs hown ad 1 c news hx (by omega) hnews h1 (by unfold maxLen; omega) (by omega) hbase fun v' w' h2 h3 _ h5 => h v' w' h2 h3 h5
end
theorem own_pos {w : World} {base e size n : Nat} {v : Value} {xs : List Value} (h : w.ownsRow base e size v (n + 1) xs) : ∃ g cap, v = .slice (some ⟨g, 0, none⟩) (n + 1) cap := by
  rcases h.2 with ⟨_, h0⟩ | ⟨g, cap, cur, hv, _⟩
  · omega
  · exact ⟨g, cap, hv⟩
theorem run_build151 (k : Int) (x : Value) (hx : x.oneCell' = true) (w : World) : (Instr.build 151 #[(0, .int .i64 k), (1, x)]).run Try.prog w = .ok (.agg #[.int .i64 k, x]) w := by
  cases x <;> simp [Value.oneCell'] at hx <;> kernel_rfl

section
variable {w : World} {r : Nat} {D : Dk} {F : Nat → Prop} {lv cv : Value} {q : List (Nat × List Int × Value)}
set_option maxRecDepth 100000 in
set_option maxHeartbeats 1000000 in
theorem rwrite_bad (h : RefAt w r D F) (at_ : Int) (a : Option Addr) (n cap : Nat) (hc : ¬ (D.code at_ = 0 ∧ n = 128)) :
    Calls Try.prog 54 #[.pointer (some ⟨r, 0, none⟩), .int .i64 at_, .slice a n cap] w fun e w' => e = .returned (.int .i64 (D.wcode at_ n)) ∧ w = w' := by
  obtain ⟨lv, cv, q, h⟩ := h.lies
  obtain ⟨bl, lcap, xc, capc, rfl, h1, h2, h3, rfl, h5⟩ := h.form
  have c0 := cell_at h.hr 0 rfl
  have c2 := cell_at h.hr 2 rfl
  have hle := h.ok.le
  unfold Dk.wcode
  cases hf : D.failed with
  | true =>
    rw [hf] at c2
    have e : D.code at_ = 2 := by unfold Dk.code; rw [hf]; rfl
    rw [e, if_neg (by decide)]
    clear h h3 h5 hc
    go_enter Try.func54, Try.ntmps54
    go_wp2
    go_ret
    exact ⟨rfl, rfl⟩
  | false =>
    rw [hf] at c2
    generalize hn2 : D.las.flatten.length = m128 at *
    have ht2 : Int.tdiv (m128 : Int) 128 = D.las.length := by rw [Int.tdiv_eq_ediv_of_nonneg (by omega)]; omega
    have e : D.code at_ = if at_ < 0 ∨ (D.las.length : Int) ≤ at_ then 3 else 0 := by unfold Dk.code; rw [hf]; rfl
    rw [e] at hc ⊢
    generalize D.las.length = m at *
    clear h h3 h5 hn2 e hf
    by_cases hr : at_ < 0
    · rw [show (if at_ < 0 ∨ (m : Int) ≤ at_ then (3 : Int) else 0) = 3 from if_pos (.inl hr), if_neg (by decide)]
      go_enter Try.func54, Try.ntmps54
      go_wp2
      go_ret
      exact ⟨rfl, rfl⟩
    · by_cases hr2 : (m : Int) ≤ at_
      · rw [show (if at_ < 0 ∨ (m : Int) ≤ at_ then (3 : Int) else 0) = 3 from if_pos (.inr hr2), if_neg (by decide)]
        go_enter Try.func54, Try.ntmps54
        go_wp2
        go_ret
        exact ⟨rfl, rfl⟩
      · have hno : ¬ (at_ < 0 ∨ (m : Int) ≤ at_) := by omega
        rw [show (if at_ < 0 ∨ (m : Int) ≤ at_ then (3 : Int) else 0) = 0 from if_neg hno] at hc ⊢
        have hn : n ≠ 128 := fun e => hc ⟨rfl, e⟩
        have hnb : ((n : Int) != 128) = true := bne_iff_ne.2 (by omega)
        rw [if_pos rfl, if_neg hn]
        clear hc hno hn
        go_enter Try.func54, Try.ntmps54
        go_wp2
        go_ret
        exact ⟨rfl, rfl⟩

/-- One write more in the cache, in memory. -/
theorem rwrite_post (h : RefLies w r D F lv cv q) {k : Nat} {xs : List Int} (hk : k < D.las.length) (hf : D.failed = false) (hx : xs.length = 128) {w1 w2 : World} {dv v' : Value} (ho1 : w1.ownsRow w.heap.size 5 1 dv 128 (u8s xs)) (hk1 : Keep NoF w w1)
    (ho2 : w2.ownsRow 0 151 2 v' (q.length + 1) (refCells q ++ [.int .i64 k, dv])) (hg : (w1.alloc (.cells #[.int .i64 k, dv] 151)).grownBy w2 cv.ownBlock) (hat : v'.ownBlock = cv.ownBlock ∨ v'.ownBlock = some (w1.alloc (.cells #[.int .i64 k, dv] 151)).heap.size) :
    (w2.cell? ⟨r, 1, none⟩ = some cv ∧ w2.frozen? ⟨r, 1, none⟩ = false ∧ r < w2.heap.size) ∧ RefPost w r { D with cache := D.cache ++ [(k, xs)] } F (w2.setCell ⟨r, 1, none⟩ v') := by
  have hk2 : Keep NoF w (w1.alloc (.cells #[.int .i64 k, dv] 151)) := hk1.trans' (Keep.alloc _ _ _)
  have hl2 := h.keep hk2 (fun _ _ h => h)
  have ho1' : OwnB (w1.alloc (.cells #[.int .i64 k, dv] 151)) w.heap.size dv xs := by
    have : w1.ownsRow w.heap.size 5 1 dv xs.length (u8s xs) := by rw [hx]; exact ho1
    exact World.ownsRow.alloc this _
  have hk3 : Keep (fun x => cv.ownBlock = some x) (w1.alloc (.cells #[.int .i64 k, dv] 151)) w2 := Keep.grown hg fun x hx => hx
  have hrc : ¬ cv.ownBlock = some r := fun e => by
    obtain ⟨cs, hcs⟩ := own_elem hl2.row e
    exact ne_of_elem hcs hl2.hr (by decide) rfl
  have hr2 := hk3.at hl2.hr hrc
  have h5c : ∀ {v : Value} {l : List Int} {base : Nat}, OwnB (w1.alloc (.cells #[.int .i64 k, dv] 151)) base v l → ∀ x, v.ownBlock = some x → ¬ cv.ownBlock = some x := fun ho x hx e => by
    obtain ⟨cs, hcs⟩ := own_elem ho hx
    obtain ⟨cs2, hcs2⟩ := own_elem hl2.row e
    exact ne_of_elem hcs hcs2 (by decide) rfl
  have hk4 : Keep (· = r) w2 (w2.setCell ⟨r, 1, none⟩ v') := Keep.setCell (F := (· = r)) w2 ⟨r, 1, none⟩ v' rfl
  have h5r : ∀ {v : Value} {l : List Int} {base : Nat}, OwnB w2 base v l → ∀ x, v.ownBlock = some x → ¬ x = r := fun ho x hx e => by
    obtain ⟨cs, hcs⟩ := own_elem ho hx
    exact ne_of_elem hcs hr2 (by decide) e
  have keep5 : ∀ {v : Value} {l : List Int} {base : Nat}, OwnB (w1.alloc (.cells #[.int .i64 k, dv] 151)) base v l → OwnB (w2.setCell ⟨r, 1, none⟩ v') base v l := fun ho => by
    have a1 := ownsRow_keep ho hk3 (h5c ho)
    exact ownsRow_keep a1 hk4 (h5r a1)
  have hhead := heap_setCell_same w2 r 1 _ _ v' hr2
  refine ⟨⟨cell_at hr2 1 rfl, free_at hr2 1, lt_of_heap hr2⟩, fun x => x = r ∨ lv.ownBlock = some x ∨ v'.ownBlock = some x ∨ ∃ e ∈ q ++ [(k, xs, dv)], e.2.2.ownBlock = some x, ⟨lv, v', q ++ [(k, xs, dv)], by simpa using hhead, keep5 hl2.las, ?_, ?_, ?_, fun x => Iff.rfl, ⟨h.ok.pos, h.ok.le, h.ok.sec, ?_, ?_⟩⟩, ?_, ?_⟩
  · rw [refCells_append, List.length_append]
    exact ownsRow_keep ho2 hk4 (fun x hx e => by
      obtain ⟨cs, hcs⟩ := own_elem ho2 hx
      exact ne_of_elem hcs hr2 (by decide) e)
  · simp [h.map]
  · intro e he
    rcases List.mem_append.1 he with he | he
    · exact keep5 (hl2.dat e he)
    · obtain rfl : e = (k, xs, dv) := by simpa using he
      exact OwnB.mono (keep5 ho1') (Nat.zero_le _)
  · intro e he
    rcases List.mem_append.1 he with he | he
    · exact h.ok.ent e he
    · obtain rfl : e = (k, xs) := by simpa using he
      exact ⟨hk, hx⟩
  · intro hd
    rw [hf] at hd
    cases hd
  · refine (hk2.mono (G := F) fun _ _ h => h.elim).trans (G := fun x => cv.ownBlock = some x ∨ x = r) ((hk3.mono fun x _ hx => .inl hx).trans' (hk4.mono fun x _ hx => .inr hx)) fun x hx hg => ?_
    rcases hg with hg | rfl
    · exact (h.hF x).2 (.inr (.inr (.inl hg)))
    · exact (h.hF _).2 (.inl rfl)
  · rintro x (rfl | hx | hx | ⟨e, he, hx⟩)
    · exact .inl ((h.hF _).2 (.inl rfl))
    · exact .inl ((h.hF x).2 (.inr (.inl hx)))
    · rcases hat with hat | hat
      · exact .inl ((h.hF x).2 (.inr (.inr (.inl (hat ▸ hx)))))
      · rw [hat] at hx
        have := hk2.size
        exact .inr (by have := Option.some.inj hx; omega)
    · rcases List.mem_append.1 he with he | he
      · exact .inl ((h.hF x).2 (.inr (.inr (.inr ⟨e, he, hx⟩))))
      · obtain rfl : e = (k, xs, dv) := by simpa using he
        exact .inr (World.ownsRow.lt ho1' x hx).1

set_option maxRecDepth 100000 in
set_option maxHeartbeats 1000000 in
theorem rwrite_any (h : RefAt w r D F) (at_ : Int) {v : Value} {xs : List Int} (hv : BytesAt w v xs) (hcl : D.cache.length ≤ 1000000) :
    Calls Try.prog 54 #[.pointer (some ⟨r, 0, none⟩), .int .i64 at_, v] w (Gives fun v w' => v = .int .i64 (D.wcode at_ xs.length) ∧ RefPost w r (D.write at_ xs) F w') := by
  obtain ⟨a, cap, rfl, hv1, hv2, hv3⟩ := hv
  by_cases hgood : D.code at_ = 0 ∧ xs.length = 128
  · obtain ⟨hc, hx⟩ := hgood
    obtain ⟨hf, hk0, hk1⟩ := Dk.code_zero hc
    obtain ⟨k, rfl⟩ := Int.eq_ofNat_of_zero_le hk0
    have hk : k < D.las.length := by omega
    have e0 : D.wcode k xs.length = 0 := by unfold Dk.wcode; rw [if_pos hc, if_pos hx]
    have ew : D.write k xs = { D with cache := D.cache ++ [(k, xs)] } := by unfold Dk.write; rw [if_pos e0]; simp
    rw [e0, ew]
    obtain ⟨bb, o, rfl, hr⟩ := hv3 (by rintro rfl; simp at hx)
    obtain ⟨lv, cv, q, h⟩ := h.lies
    have hql := h.len
    obtain ⟨bl, lcap, xc, capc, rfl, h1, h2, h3, rfl, h5⟩ := h.form
    have c0 := cell_at h.hr 0 rfl
    have c1 := cell_at h.hr 1 rfl
    have c2 := cell_at h.hr 2 rfl
    rw [hf] at c2
    have hle := h.ok.le
    have HLI : Hid (∀ w1, Keep NoF w w1 → (w1.cell? ⟨r, 0, none⟩ = some (.slice (some ⟨bl, 0, none⟩) D.las.flatten.length lcap) ∧ w1.cell? ⟨r, 1, none⟩ = some (.slice xc q.length capc)) ∧ ∀ o, (w1.alloc o).ownsRow 0 151 2 (.slice xc q.length capc) q.length (refCells q)) := fun w1 hk => by
      have hl := h.keep hk (fun _ _ h => h)
      exact ⟨⟨cell_at hl.hr 0 rfl, cell_at hl.hr 1 rfl⟩, fun o => World.ownsRow.alloc hl.row o⟩
    have HPO : Hid (∀ {w1 w2 : World} {dv v' : Value}, w1.ownsRow w.heap.size 5 1 dv 128 (u8s xs) → Keep NoF w w1 → w2.ownsRow 0 151 2 v' (q.length + 1) (refCells q ++ [.int .i64 k, dv]) → (w1.alloc (.cells #[.int .i64 k, dv] 151)).grownBy w2 (Value.slice xc q.length capc).ownBlock →
        (v'.ownBlock = (Value.slice xc q.length capc).ownBlock ∨ v'.ownBlock = some (w1.alloc (.cells #[.int .i64 k, dv] 151)).heap.size) → (w2.cell? ⟨r, 1, none⟩ = some (.slice xc q.length capc) ∧ w2.frozen? ⟨r, 1, none⟩ = false ∧ r < w2.heap.size) ∧ RefPost w r { D with cache := D.cache ++ [(k, xs)] } F (w2.setCell ⟨r, 1, none⟩ v')) := fun ho1 hk1 ho2 hg hat => rwrite_post h hk hf hx ho1 hk1 ho2 hg hat
    have HL : Hid ((u8s xs).length = 128) := by show _ = _; rw [length_u8s]; exact hx
    have HU := Lib.hid (u8s_one xs)
    have HN : Hid (∀ j u, (u8s xs)[j]? = some u → w.cell? ((⟨bb, o, none⟩ : Addr).add j) = some u) := fun j u hj => by
      have hadd : (⟨bb, o, none⟩ : Addr).add j = ⟨bb, o + j, none⟩ := by unfold Addr.add; split <;> simp_all
      rw [hadd]
      exact hr j u hj
    have HN2 : Hid (∀ (w1 : World) (dv : Value) j u, [Value.int .i64 k, dv][j]? = some u → (w1.alloc (.cells #[.int .i64 k, dv] 151)).cell? ((⟨w1.heap.size, 0, none⟩ : Addr).add j) = some u) := fun w1 dv j u hj => by
      have hadd : (⟨w1.heap.size, 0, none⟩ : Addr).add j = ⟨w1.heap.size, 0 + j, none⟩ := by unfold Addr.add; split <;> simp_all
      rw [hadd]
      exact cell_at (heap_alloc_new w1 _) _ (by simpa using hj)
    have HU2 : Hid (∀ (a : Addr) (n c : Nat), ∀ u ∈ [Value.int .i64 k, .slice (some a) n c], u.oneCell' = true) := fun a n c u hu => by
      rcases List.mem_cons.1 hu with rfl | hu
      · rfl
      · obtain rfl : u = .slice (some a) n c := by simpa using hu
        rfl
    have hbb := fun (a : Addr) (n c : Nat) (w : World) => run_build151 k (.slice (some a) n c) rfl w
    have hqn : q.length ≤ 1073741824 := by omega
    generalize hn2 : D.las.flatten.length = m128 at *
    have ht2 : Int.tdiv (m128 : Int) 128 = D.las.length := by rw [Int.tdiv_eq_ediv_of_nonneg (by omega)]; omega
    have hkm : (k : Int) < D.las.length := by omega
    rw [hx]
    generalize D.las.length = m at *
    clear h h3 h5 hn2 hf hc hk0 hk1 e0 ew hr hv1 hv2 hv3 hx hql hcl
    generalize q.length = qn at *
    go_enter Try.func54, Try.ntmps54
    go_wp2_with (first | (at_builtin; refine wpList_app103 rfl _ _ rfl 0 _ qn (refCells q) rfl (HOW.out _) ⟨w1.heap.size, 0, none⟩ 1 [.int .i64 k, .slice (some ⟨g, 0, none⟩) 128 gc] rfl rfl (HN2.out _ _) (HU2.out _ _ _) (by omega) (Nat.zero_le _) ?_; intro v' w2 ho2 hg2 hat2; obtain ⟨g2, gc2, rfl⟩ := own_pos ho2; obtain ⟨⟨p1, p2, p3⟩, pp⟩ := HPO.out HO1.out HK1.out ho2 hg2 hat2; have HPP := Lib.hid pp; clear ho2 hg2 hat2 pp) |
      (at_builtin; go_must (refine wpList_app22 rfl _ _ rfl w.heap.size _ 0 [] rfl (World.ownsRow_nil _ _ _ _) ⟨bb, o, none⟩ 128 cap (u8s xs) rfl HL.out HN.out HU.out (by omega) (Nat.le_refl _) ?_); intro dv w1 ho hg _; obtain ⟨g, gc, rfl⟩ : ∃ g gc, dv = .slice (some ⟨g, 0, none⟩) 128 gc := (by obtain ⟨g, gc, _, hv, _⟩ := own_some (n := 127) ho; exact ⟨g, gc, hv⟩); have HO1 : Hid (w1.ownsRow w.heap.size 5 1 (.slice (some ⟨g, 0, none⟩) 128 gc) 128 (u8s xs)) := (by have h := ho; rw [Nat.zero_add, List.nil_append] at h; exact h); have HK1 : Hid (Keep NoF w w1) := Keep.grown hg (fun x hx => by cases hx); obtain ⟨⟨d0, d1⟩, dd⟩ := HLI.out w1 HK1.out; have HOW := Lib.hid dd; clear ho hg dd))
    go_ret
    exact ⟨_, rfl, rfl, HPP.out⟩
  · have hwr : D.write at_ xs = D := by
      unfold Dk.write
      rw [if_neg (fun e => hgood (by
        unfold Dk.wcode at e
        split at e
        · rename_i hc
          split at e
          · rename_i hn; exact ⟨hc, hn⟩
          · cases e
        · rename_i hc; exact absurd e hc))]
    rw [hwr]
    refine (rwrite_bad h at_ a xs.length cap hgood).mono fun e w' hg => ?_
    obtain ⟨rfl, rfl⟩ := hg
    exact ⟨_, rfl, rfl, RefPost.same h⟩
end
end Go.Proofs.Ytghnbbpoaeheaaa

/- The document's disk, walked: Read, Pending. -/
namespace Go.Proofs.Ytghnbbpoaeheaaa
open Go.RowKit

def RReadPost (w : World) (D : Dk) (at_ : Int) (v : Value) (w' : World) : Prop := ∃ s, v = .tuple #[s, .int .i64 (D.code at_)] ∧ OwnB w' w.heap.size s (D.read at_) ∧ Keep NoF w w'
/-- What Read's loop has found behind i writes. -/
def foundAt (D : Dk) (k i : Nat) : List Int := (cached (D.cache.take i) k).getD (D.las.getD k [])
theorem foundAt_zero (D : Dk) (k : Nat) : foundAt D k 0 = D.las.getD k [] := by simp [foundAt, cached_nil]
theorem foundAt_all (D : Dk) (k : Nat) : foundAt D k D.cache.length = D.get k := by unfold foundAt Dk.get; rw [List.take_length]
theorem foundAt_succ (D : Dk) (k i : Nat) {e : Nat × List Int} (h : D.cache[i]? = some e) : foundAt D k (i + 1) = if e.1 = k then e.2 else foundAt D k i := by
  unfold foundAt
  rw [List.take_add_one, h]
  show (cached (D.cache.take i ++ [e]) k).getD _ = _
  rw [cached_snoc]
  split <;> rfl
/-- The bytes that Read has in hand. -/
def InHand (w : World) (l : List Int) (b : Value) : Prop := ∃ g o ln c, b = .slice (some ⟨g, o, none⟩) ln c ∧ ln = 128 ∧ l.length = 128 ∧ w.rangeAt g o (u8s l)
theorem inHand_of_own {w : World} {v : Value} {l : List Int} (h : OwnB w 0 v l) (hl : l.length = 128) : InHand w l v := by
  obtain ⟨a, cap, hv, h1, h2, h3⟩ := OwnB.bytes h
  obtain ⟨g, o, rfl, hr⟩ := h3 (by rintro rfl; simp at hl)
  exact ⟨g, o, _, cap, hv, hl, hl, hr⟩

section
variable {w : World} {r : Nat} {D : Dk} {F : Nat → Prop} {lv cv : Value} {q : List (Nat × List Int × Value)}
set_option maxRecDepth 100000 in
set_option maxHeartbeats 1000000 in
theorem rread_bad (h : RefAt w r D F) (at_ : Int) (hc : ¬ D.code at_ = 0) :
    Calls Try.prog 53 #[.pointer (some ⟨r, 0, none⟩), .int .i64 at_] w fun e w' => e = .returned (.tuple #[.slice none 0 0, .int .i64 (D.code at_)]) ∧ w = w' := by
  obtain ⟨lv, cv, q, h⟩ := h.lies
  obtain ⟨bl, lcap, xc, capc, rfl, h1, h2, h3, rfl, h5⟩ := h.form
  have c0 := cell_at h.hr 0 rfl
  have c2 := cell_at h.hr 2 rfl
  have hle := h.ok.le
  cases hf : D.failed with
  | true =>
    rw [hf] at c2
    have e : D.code at_ = 2 := by unfold Dk.code; rw [hf]; rfl
    rw [e]
    clear h h3 h5 hc
    go_enter Try.func53, Try.ntmps53
    go_wp2
    go_ret2
    exact ⟨rfl, rfl⟩
  | false =>
    rw [hf] at c2
    generalize hn2 : D.las.flatten.length = m128 at *
    have ht2 : Int.tdiv (m128 : Int) 128 = D.las.length := by rw [Int.tdiv_eq_ediv_of_nonneg (by omega)]; omega
    have e : D.code at_ = if at_ < 0 ∨ (D.las.length : Int) ≤ at_ then 3 else 0 := by unfold Dk.code; rw [hf]; rfl
    rw [e] at hc ⊢
    generalize D.las.length = m at *
    clear h h3 h5 hn2 e hf
    by_cases hr : at_ < 0
    · rw [show (if at_ < 0 ∨ (m : Int) ≤ at_ then (3 : Int) else 0) = 3 from if_pos (.inl hr)]
      clear hc
      go_enter Try.func53, Try.ntmps53
      go_wp2
      go_ret2
      exact ⟨rfl, rfl⟩
    · by_cases hr2 : (m : Int) ≤ at_
      · rw [show (if at_ < 0 ∨ (m : Int) ≤ at_ then (3 : Int) else 0) = 3 from if_pos (.inr hr2)]
        clear hc
        go_enter Try.func53, Try.ntmps53
        go_wp2
        go_ret2
        exact ⟨rfl, rfl⟩
      · exact absurd (if_neg (by omega)) hc

set_option maxRecDepth 100000 in
set_option maxHeartbeats 1000000 in
theorem rread_any (h : RefAt w r D F) (at_ : Int) (hcl : D.cache.length ≤ 1000000) : Calls Try.prog 53 #[.pointer (some ⟨r, 0, none⟩), .int .i64 at_] w (Gives (RReadPost w D at_)) := by
  by_cases hc : D.code at_ = 0
  case neg =>
    refine (rread_bad h at_ hc).mono fun e w' hg => ?_
    obtain ⟨rfl, rfl⟩ := hg
    refine ⟨_, rfl, .slice none 0 0, rfl, ?_, Keep.refl _ _⟩
    unfold Dk.read
    rw [if_neg hc]
    exact World.ownsRow_nil _ _ _ _
  obtain ⟨hf, hk0, hk1⟩ := Dk.code_zero hc
  obtain ⟨k, rfl⟩ := Int.eq_ofNat_of_zero_le hk0
  have hk : k < D.las.length := by omega
  have erd : D.read k = D.get k := by unfold Dk.read; rw [if_pos hc]; simp
  unfold RReadPost
  rw [hc, erd]
  obtain ⟨lv, cv, q, h⟩ := h.lies
  have hql := h.len
  obtain ⟨bl, lcap, xc, capc, rfl, h1, h2, h3, rfl, h5⟩ := h.form
  have c0 := cell_at h.hr 0 rfl
  have c1 := cell_at h.hr 1 rfl
  have c2 := cell_at h.hr 2 rfl
  rw [hf] at c2
  have hle := h.ok.le
  have hsl : (D.las.getD k []).length = 128 := by
    rw [List.getD_eq_getElem?_getD, List.getElem?_eq_getElem hk]
    exact h.ok.sec _ (List.getElem_mem hk)
  have HST : Hid (∀ ln, ln = 128 → InHand w (foundAt D k 0) (.slice (some ⟨bl, 128 * k, none⟩) ln (lcap - 128 * k))) := fun ln e => by
    refine ⟨bl, 128 * k, _, _, rfl, e, by rw [foundAt_zero]; exact hsl, fun j v hj => ?_⟩
    rw [foundAt_zero] at hj
    have hjl : j < 128 := by have := (List.getElem?_eq_some_iff.1 hj).1; rw [length_u8s, hsl] at this; exact this
    have h4 := h3 (128 * k + j) v (by
      rw [← hj, ← flatten_sector D.las k h.ok.sec hk]
      simp only [u8s, List.getElem?_map, List.getElem?_take, List.getElem?_drop, if_pos hjl])
    rwa [Nat.zero_add] at h4
  have HEN : Hid (∀ i, i < q.length → ∃ e bc capc', D.cache[i]? = some e ∧ xc = some ⟨bc, 0, none⟩ ∧ capc' = capc ∧ ∃ dv, w.cell? ⟨bc, i * 2, none⟩ = some (.int .i64 e.1) ∧ w.cell? ⟨bc, i * 2 + 1, none⟩ = some dv ∧ InHand w e.2 dv) := fun i hi => by
    obtain ⟨x, hx⟩ : ∃ x, q[i]? = some x := ⟨_, List.getElem?_eq_getElem hi⟩
    have hmem := List.mem_of_getElem? hx
    have hce : D.cache[i]? = some (x.1, x.2.1) := by rw [← h.map, List.getElem?_map, hx]; rfl
    obtain ⟨bc, cc, hv, e1, e2⟩ := h.entry hx
    simp only [Value.slice.injEq, true_and] at hv
    exact ⟨_, bc, cc, hce, hv.1, hv.2.symm, x.2.2, e1, e2, inHand_of_own (h.dat x hmem) (h.ok.ent _ (List.mem_of_getElem? hce)).2⟩
  have HQ : Hid (q.length = D.cache.length) := hql
  have hw1 : IntKind.i64.wrap (128 * (k : Int)) = 128 * k := IntWalk.i64_in _ (by omega)
  have hw2 : IntKind.i64.wrap (128 * (k : Int) + 128) = 128 * k + 128 := IntWalk.i64_in _ (by omega)
  have hql2 : q.length ≤ 1000000 := by omega
  generalize hn2 : D.las.flatten.length = m128 at *
  have ht2 : Int.tdiv (m128 : Int) 128 = D.las.length := by rw [Int.tdiv_eq_ediv_of_nonneg (by omega)]; omega
  have hkm : (k : Int) < D.las.length := by omega
  have hcap2 : 128 * k + 128 ≤ lcap := by omega
  have hcap3 : ¬ lcap = 128 * k := by omega
  unfold maxLen at h2
  generalize D.las.length = m at *
  generalize q.length = qn at *
  clear h h3 h5 hn2 hf hc hk0 hk1 erd hsl hql
  go_enter Try.func53, Try.ntmps53
  go_wp2
  go_loopw [6, 7] (fun b t wr => ∃ i : Nat, i ≤ qn ∧ t = .int .i64 i ∧ InHand w (foundAt D k i) b ∧ w = wr) (fun _ t _ => qn - (intOf t).toNat)
  case atStart => exact ⟨0, Nat.zero_le _, rfl, by first | exact HST.out _ (by omega) | (simp only [Nat.zero_add]; exact HST.out _ (by omega)), rfl⟩
  case round =>
    obtain ⟨i, hi, rfl, hih, rfl⟩ := hrel
    by_cases hlt : i < qn
    · obtain ⟨e, bc, capc', hce, rfl, rfl, dv, e1, e2, hdv⟩ := HEN.out i hlt
      have hfs := foundAt_succ D k i hce
      by_cases hek : e.1 = k
      · rw [if_pos hek] at hfs
        have HN : Hid (InHand w (foundAt D k (i + 1)) dv) := by rw [hfs]; exact hdv
        rw [hek] at e1
        obtain ⟨g, o, ln, c, rfl, -⟩ := id hdv
        clear hce hfs hdv hih
        go_wp2
        exact ⟨⟨i + 1, by omega, by go_num, HN.out, trivial⟩, by simp [intOf]; omega⟩
      · rw [if_neg hek] at hfs
        have HN : Hid (InHand w (foundAt D k (i + 1)) u6) := by rw [hfs]; exact hih
        have hb : ((e.1 : Int) == (k : Int)) = false := beq_eq_false_iff_ne.2 (by omega)
        clear hce hfs hdv hih
        go_wp2
        exact ⟨⟨i + 1, by omega, by go_num, HN.out, trivial⟩, by simp [intOf]; omega⟩
    · obtain rfl : i = qn := by omega
      obtain ⟨g, o, ln, c, rfl, rfl, hl, hr⟩ := hih
      rw [HQ.out, foundAt_all] at hl hr
      have HL : Hid ((u8s (D.get k)).length = 128) := by show _ = _; rw [length_u8s]; exact hl
      have HU := Lib.hid (u8s_one (D.get k))
      have HNN : Hid (∀ j u, (u8s (D.get k))[j]? = some u → w.cell? ((⟨g, o, none⟩ : Addr).add j) = some u) := fun j u hj => by
        have hadd : (⟨g, o, none⟩ : Addr).add j = ⟨g, o + j, none⟩ := by unfold Addr.add; split <;> simp_all
        rw [hadd]
        exact hr j u hj
      have HLL := Lib.hid hl
      clear hl hr
      go_wp2_with (at_builtin; go_must (refine wpList_app22 rfl _ _ rfl w.heap.size _ 0 [] rfl (World.ownsRow_nil _ _ _ _) ⟨g, o, none⟩ 128 c (u8s (D.get k)) rfl HL.out HNN.out HU.out (by omega) (Nat.le_refl _) ?_); intro v' w' ho hg _; have HO := Lib.hid ho; have HG := Lib.hid hg; clear ho hg)
      go_ret2
      refine ⟨_, rfl, _, rfl, ?_, Keep.grown HG.out (fun x hx => by cases hx)⟩
      have := HO.out
      unfold OwnB
      rw [HLL.out]
      simpa using this

set_option maxRecDepth 100000 in
set_option maxHeartbeats 1000000 in
theorem rpending_any (h : RefAt w r D F) (hcl : D.cache.length ≤ 1000000) : Calls Try.prog 61 #[.pointer (some ⟨r, 0, none⟩)] w (Gives fun v w' => Pends w D.pending v w') := by
  obtain ⟨lv, cv, q, h⟩ := h.lies
  have hql := h.len
  obtain ⟨bl, lcap, xc, capc, rfl, h1, h2, h3, rfl, h5⟩ := h.form
  have HLI : Hid (∀ w1, Keep NoF w w1 → w1.cell? ⟨r, 1, none⟩ = some (.slice xc q.length capc)) := fun w1 hk => cell_at (h.keep hk (fun _ _ h => h)).hr 1 rfl
  have HEN : Hid (∀ i, i < q.length → ∃ e bc, D.cache[i]? = some e ∧ xc = some ⟨bc, 0, none⟩ ∧ ∀ w1, Keep NoF w w1 → w1.cell? ⟨bc, i * 2, none⟩ = some (.int .i64 e.1)) := fun i hi => by
    obtain ⟨x, hx⟩ : ∃ x, q[i]? = some x := ⟨_, List.getElem?_eq_getElem hi⟩
    have hce : D.cache[i]? = some (x.1, x.2.1) := by rw [← h.map, List.getElem?_map, hx]; rfl
    obtain ⟨bc, cc, hv, e1, e2⟩ := h.entry hx
    simp only [Value.slice.injEq, true_and] at hv
    exact ⟨_, bc, hce, hv.1, fun w1 hk => hk.cell e1 (fun h => h)⟩
  have HQ : Hid (q.length = D.cache.length) := hql
  have hql2 : q.length ≤ 1000000 := by omega
  unfold Dk.pending
  generalize q.length = qn at *
  clear h h1 h2 h3 h5 hql hcl
  go_enter Try.func61, Try.ntmps61
  go_wp2
  go_loopw [3, 4] (fun v t wr => ∃ i : Nat, i ≤ qn ∧ t = .int .i64 i ∧ Pends w ((D.cache.take i).map fun e => (e.1 : Int)) v wr) (fun _ t _ => qn - (intOf t).toNat)
  case atStart => exact ⟨0, Nat.zero_le _, rfl, World.ownsRow_nil _ _ _ _, Keep.refl _ _⟩
  case round =>
    obtain ⟨i, hi, rfl, hp⟩ := hrel
    have c1 := HLI.out wr hp.2
    by_cases hlt : i < qn
    · obtain ⟨e, bc, hce, rfl, hcell⟩ := HEN.out i hlt
      have ce := hcell wr hp.2
      have HN : Hid (∀ j u, [Value.int .i64 e.1][j]? = some u → (wr.alloc (.cells #[.int .i64 e.1] 3)).cell? ((⟨wr.heap.size, 0, none⟩ : Addr).add j) = some u) := cell_one_new wr (.int .i64 e.1) 3
      have HOWN : Hid ((wr.alloc (.cells #[.int .i64 e.1] 3)).ownsRow w.heap.size 3 1 u3 ((D.cache.take i).map fun e => (e.1 : Int)).length (ints ((D.cache.take i).map fun e => (e.1 : Int)))) := World.ownsRow.alloc hp.1 _
      have hlen : ((D.cache.take i).map fun e => (e.1 : Int)).length = i := by simp; have := HQ.out; omega
      have HSN : Hid (D.cache.take (i + 1) = D.cache.take i ++ [e]) := by show _ = _; rw [List.take_add_one, hce]; rfl
      have HP := Lib.hid hp
      have hsz : w.heap.size ≤ (wr.alloc (.cells #[.int .i64 e.1] 3)).heap.size := by have := hp.2.size; simp; omega
      have HU : Hid (∀ u ∈ [Value.int .i64 e.1], u.oneCell' = true) := fun u hu => by
        obtain rfl : u = .int .i64 e.1 := by simpa using hu
        rfl
      rw [hlen] at HOWN
      clear hce hcell hp
      go_wp2_with (at_builtin; go_must (refine wpList_app76 rfl _ _ rfl w.heap.size _ i _ rfl HOWN.out ⟨wr.heap.size, 0, none⟩ 1 1 [.int .i64 e.1] rfl rfl HN.out HU.out (by omega) hsz ?_); intro v' w' ho hg _; have HO := Lib.hid ho; have HG := Lib.hid hg; clear ho hg)
      refine ⟨⟨i + 1, by omega, by go_num, ?_, ?_⟩, by simp [intOf]; omega⟩
      · have := HO.out
        unfold OwnI
        rw [HSN.out, List.map_append, List.length_append, hlen]
        simpa [ints] using this
      · refine HP.out.2.trans (G := fun x => u3.ownBlock = some x) ?_ fun x hx e => ?_
        · exact (Keep.alloc _ _ _).trans' (Keep.grown HG.out fun x hx => hx)
        · exact absurd (ownBlock_ge HP.out.1 e) (by omega)
    · obtain rfl : i = qn := by omega
      have HP := Lib.hid hp
      clear hp
      go_wp2
      go_ret
      have := HP.out
      rw [HQ.out, List.take_length] at this
      exact ⟨_, rfl, this⟩
end
end Go.Proofs.Ytghnbbpoaeheaaa

/- The document's disk, walked: lasts. -/
namespace Go.Proofs.Ytghnbbpoaeheaaa
open Go.RowKit

theorem flatten_take {las : List (List Int)} (h : ∀ s ∈ las, s.length = 128) {k : Nat} (hk : k ≤ las.length) : las.flatten.take (128 * k) = (las.take k).flatten ∧ las.flatten.drop (128 * k) = (las.drop k).flatten := by
  have e : las.flatten = (las.take k).flatten ++ (las.drop k).flatten := by rw [← List.flatten_append, List.take_append_drop]
  have hl : (las.take k).flatten.length = 128 * k := by
    rw [flatten_length _ (fun s hs => h s (List.mem_of_mem_take hs)), List.length_take, Nat.min_eq_left hk]
  rw [e, ← hl]
  exact ⟨List.take_left' rfl, List.drop_left' rfl⟩
theorem flatten_set {las : List (List Int)} (h : ∀ s ∈ las, s.length = 128) {k : Nat} (hk : k < las.length) (e : List Int) : las.flatten.take (128 * k) ++ e ++ las.flatten.drop (128 * k + 128) = (las.set k e).flatten := by
  have e2 : las.set k e = las.take k ++ [e] ++ las.drop (k + 1) := by
    rw [List.set_eq_take_append_cons_drop, if_pos hk]; simp
  rw [e2, (flatten_take h (Nat.le_of_lt hk)).1, show 128 * k + 128 = 128 * (k + 1) by omega, (flatten_take h hk).2]
  simp

theorem wp_app22 {o : Oper} {a : Act} {w : World} {K : Act → World → Prop} {Q : Exit → Act → World → Prop} (s x : Operand) (ho : o.op = .call { callee := .builtin .append, args := #[s, x], argTypes := #[22, 22] })
    (base : Nat) (v : Value) (n : Nat) (xs : List Value) (hs : a.eval s = v) (hown : w.ownsRow base 5 1 v n xs)
    (ad : Addr) (m c : Nat) (news : List Value) (hx : a.eval x = .slice (some ad) m c) (hl : news.length = m) (hnews : ∀ j u, news[j]? = some u → w.cell? (ad.add j) = some u) (h1 : ∀ u ∈ news, u.oneCell' = true)
    (hb : n + m ≤ 1073741824) (hbase : base ≤ w.heap.size)
    (h : ∀ v' w', w'.ownsRow base 5 1 v' (n + m) (xs ++ news) → w.grownBy w' v.ownBlock → K (a.put o.dst v') w') : o.wp Try.prog a w K Q := by
  obtain ⟨i, hi, he⟩ := info_of i5
  simp only [Prod.mk.injEq] at he
  exact wp_append_own w s x 22 ho base 5 i (.int .u8 0) 1 1 Try.underlying22 hi he.1 he.2.1 he.2.2 rfl (by decide) v n xs hs hown ad m c news hx (by omega) hnews h1 (by unfold maxLen; omega) (by omega) hbase fun v' w' h2 h3 _ => h v' w' h2 h3
theorem own_pos2 {w : World} {base e size n : Nat} {v : Value} {xs : List Value} (h : w.ownsRow base e size v n xs) (hn : 0 < n) : ∃ g cap, v = .slice (some ⟨g, 0, none⟩) n cap := by
  rcases h.2 with ⟨_, h0⟩ | ⟨g, cap, cur, hv, _⟩
  · omega
  · exact ⟨g, cap, hv⟩
theorem keep_grown {w w1 w2 : World} {v : Value} {n : Nat} {xs : List Value} (hk : Keep NoF w w1) (ho : w1.ownsRow w.heap.size 5 1 v n xs) (hg : w1.grownBy w2 v.ownBlock) : Keep NoF w w2 :=
  hk.trans (G := fun x => v.ownBlock = some x) (Keep.grown hg fun x hx => hx) fun x hx e => by have := (ho.lt x e).1; omega
theorem cell_grown {w1 w2 : World} {v : Value} {base n : Nat} {xs : List Value} (ho : w1.ownsRow base 5 1 v n xs) (hg : w1.grownBy w2 v.ownBlock) {g : Nat} {cs : Array Value} {fr : Nat × Nat} (hc : w1.heap[g]? = some (.cells cs 151 fr)) : w2.heap[g]? = some (.cells cs 151 fr) :=
  (Keep.grown (F := fun x => v.ownBlock = some x) hg fun x hx => hx).at hc (fun e => by
    obtain ⟨cs2, hcs⟩ := own_elem ho e
    exact ne_of_elem hcs hc (by decide) rfl)
section
variable {w : World} {r : Nat} {D : Dk} {F : Nat → Prop} {lv cv : Value} {q : List (Nat × List Int × Value)}
/-- Its lasting bytes are new ones. -/
theorem rlasts_post (h : RefLies w r D F lv cv q) {k : Nat} {e : List Int} (hk : k < D.las.length) (he : e.length = 128) {w3 : World} {v3 : Value} (hk3 : Keep NoF w w3) (ho : OwnB w3 w.heap.size v3 (D.las.set k e).flatten) :
    (w3.cell? ⟨r, 0, none⟩ = some lv ∧ w3.frozen? ⟨r, 0, none⟩ = false ∧ r < w3.heap.size) ∧ RefPost w r { D with las := D.las.set k e } F (w3.setCell ⟨r, 0, none⟩ v3) := by
  have hl3 := h.keep hk3 (fun _ _ h => h)
  have hk4 : Keep (· = r) w3 (w3.setCell ⟨r, 0, none⟩ v3) := Keep.setCell (F := (· = r)) w3 ⟨r, 0, none⟩ v3 rfl
  have keepE : ∀ {base el size n : Nat} {v : Value} {xs : List Value}, el ≠ 105 → w3.ownsRow base el size v n xs → (w3.setCell ⟨r, 0, none⟩ v3).ownsRow base el size v n xs := fun hel ho => ownsRow_keep ho hk4 (fun x hx e => by
    obtain ⟨cs, hcs⟩ := own_elem ho hx
    exact ne_of_elem hcs hl3.hr hel e)
  have hhead := heap_setCell_same w3 r 0 _ _ v3 hl3.hr
  refine ⟨⟨cell_at hl3.hr 0 rfl, free_at hl3.hr 0, lt_of_heap hl3.hr⟩, fun x => x = r ∨ v3.ownBlock = some x ∨ cv.ownBlock = some x ∨ ∃ e ∈ q, e.2.2.ownBlock = some x,
    ⟨v3, cv, q, by simpa using hhead, OwnB.mono (keepE (by decide) ho) (Nat.zero_le _), keepE (by decide) hl3.row, h.map, fun x hx => keepE (by decide) (hl3.dat x hx), fun x => Iff.rfl, ⟨?_, ?_, ?_, ?_, h.ok.dead⟩⟩, ?_, ?_⟩
  · show 1 ≤ (D.las.set k e).length
    rw [List.length_set]; exact h.ok.pos
  · show (D.las.set k e).length ≤ 8192
    rw [List.length_set]; exact h.ok.le
  · intro s hs
    rcases List.mem_or_eq_of_mem_set hs with hs | rfl
    · exact h.ok.sec s hs
    · exact he
  · intro x hx
    have := h.ok.ent x hx
    exact ⟨by show x.1 < (D.las.set k e).length; rw [List.length_set]; exact this.1, this.2⟩
  · exact (hk3.mono (G := F) fun _ _ h => h.elim).trans' (hk4.mono fun x _ e => (show x = r from e) ▸ (h.hF r).2 (.inl rfl))
  · rintro x (rfl | hx | hx | ⟨e, he, hx⟩)
    · exact .inl ((h.hF _).2 (.inl rfl))
    · exact .inr (World.ownsRow.lt ho x hx).1
    · exact .inl ((h.hF x).2 (.inr (.inr (.inl hx))))
    · exact .inl ((h.hF x).2 (.inr (.inr (.inr ⟨e, he, hx⟩))))

set_option maxRecDepth 100000 in
set_option maxHeartbeats 2000000 in
theorem rlasts_any (h : RefAt w r D F) {k : Nat} {e : List Int} {dv : Value} (hk : k < D.las.length) (he : e.length = 128) (hd : BytesAt w dv e) :
    Calls Try.prog 99 #[.pointer (some ⟨r, 0, none⟩), .agg #[.int .i64 k, dv]] w (Gives fun v w' => v = .tuple #[] ∧ RefPost w r { D with las := D.las.set k e } F w') := by
  obtain ⟨da, dcap, rfl, -, -, hd3⟩ := hd
  obtain ⟨gd, od, rfl, hdr⟩ := hd3 (by rintro rfl; simp at he)
  obtain ⟨lv, cv, q, h⟩ := h.lies
  obtain ⟨bl, lcap, xc, capc, rfl, h1, h2, h3, rfl, h5⟩ := h.form
  have hle := h.ok.le
  have hflat := flatten_set h.ok.sec hk e
  have HLI : Hid (∀ w1, Keep NoF w w1 → w1.cell? ⟨r, 0, none⟩ = some (.slice (some ⟨bl, 0, none⟩) D.las.flatten.length lcap)) := fun w1 hk1 => cell_at (h.keep hk1 (fun _ _ h => h)).hr 0 rfl
  have HPO : Hid (∀ {w3 : World} {v3 : Value}, Keep NoF w w3 → w3.ownsRow w.heap.size 5 1 v3 D.las.flatten.length (u8s (D.las.flatten.take (128 * k)) ++ u8s e ++ u8s (D.las.flatten.drop (128 * k + 128))) → (w3.cell? ⟨r, 0, none⟩ = some (.slice (some ⟨bl, 0, none⟩) D.las.flatten.length lcap) ∧ w3.frozen? ⟨r, 0, none⟩ = false ∧ r < w3.heap.size) ∧ RefPost w r { D with las := D.las.set k e } F (w3.setCell ⟨r, 0, none⟩ v3)) := fun hk3 ho => by
    refine rlasts_post h hk he hk3 ?_
    unfold OwnB
    rw [← hflat, u8s_append, u8s_append]
    have hl : (D.las.flatten.take (128 * k) ++ e ++ D.las.flatten.drop (128 * k + 128)).length = D.las.flatten.length := by
      simp only [List.length_append, List.length_take, List.length_drop, he]; omega
    rw [hl]
    exact ho
  have HN1 : Hid (∀ w1, Keep NoF w w1 → ∀ j u, (u8s (D.las.flatten.take (128 * k)))[j]? = some u → w1.cell? ((⟨bl, 0, none⟩ : Addr).add j) = some u) := fun w1 hk1 j u hj => by
    have hadd : (⟨bl, 0, none⟩ : Addr).add j = ⟨bl, 0 + j, none⟩ := by unfold Addr.add; split <;> simp_all
    rw [hadd]
    refine hk1.cell (h3 j u ?_) (fun h => h)
    have hjl : j < 128 * k := by have := (List.getElem?_eq_some_iff.1 hj).1; simp at this; omega
    rw [← hj]
    simp only [u8s, List.getElem?_map, List.getElem?_take, if_pos hjl]
  have HN2 : Hid (∀ w1, Keep NoF w w1 → ∀ j u, (u8s e)[j]? = some u → w1.cell? ((⟨gd, od, none⟩ : Addr).add j) = some u) := fun w1 hk1 j u hj => by
    have hadd : (⟨gd, od, none⟩ : Addr).add j = ⟨gd, od + j, none⟩ := by unfold Addr.add; split <;> simp_all
    rw [hadd]
    exact hk1.cell (hdr j u hj) (fun h => h)
  have HN3 : Hid (∀ w1, Keep NoF w w1 → ∀ j u, (u8s (D.las.flatten.drop (128 * k + 128)))[j]? = some u → w1.cell? ((⟨bl, 128 * k + 128, none⟩ : Addr).add j) = some u) := fun w1 hk1 j u hj => by
    have hadd : (⟨bl, 128 * k + 128, none⟩ : Addr).add j = ⟨bl, 0 + (128 * k + 128 + j), none⟩ := by unfold Addr.add; split <;> simp_all
    rw [hadd]
    refine hk1.cell (h3 _ u ?_) (fun h => h)
    rw [← hj]
    simp only [u8s, List.getElem?_map, List.getElem?_drop]
  have HL1 : Hid ((u8s (D.las.flatten.take (128 * k))).length = 128 * k) := by show _ = _; rw [length_u8s, List.length_take]; exact Nat.min_eq_left (by omega)
  have HL2 : Hid ((u8s e).length = 128) := by show _ = _; rw [length_u8s]; exact he
  have HL3 : Hid ((u8s (D.las.flatten.drop (128 * k + 128))).length = D.las.flatten.length - (128 * k + 128)) := by show _ = _; simp
  have HU1 := Lib.hid (u8s_one (D.las.flatten.take (128 * k)))
  have HU2 := Lib.hid (u8s_one e)
  have HU3 := Lib.hid (u8s_one (D.las.flatten.drop (128 * k + 128)))
  generalize u8s (D.las.flatten.take (128 * k)) = x1 at *
  generalize u8s (D.las.flatten.drop (128 * k + 128)) = x3 at *
  generalize u8s e = x2 at *
  have hw1 : IntKind.i64.wrap (128 * (k : Int)) = 128 * k := IntWalk.i64_in _ (by omega)
  have hw2 : IntKind.i64.wrap (128 * (k : Int) + 128) = 128 * k + 128 := IntWalk.i64_in _ (by omega)
  have hb1 : 0 ≤ 128 * (k : Int) := by omega
  have hb2 : 128 * (k : Int) ≤ lcap := by omega
  have htn : (128 * (k : Int)).toNat = 128 * k := by omega
  have hb3 : 0 ≤ 128 * (k : Int) + 128 := by omega
  have hb4 : 128 * (k : Int) + 128 ≤ (D.las.flatten.length : Int) := by omega
  have htn2 : (128 * (k : Int) + 128).toNat = 128 * k + 128 := by omega
  have hne0 : ¬ lcap = 0 := by omega
  have hnk : 128 * k + 128 ≤ D.las.flatten.length := by omega
  have hn6 : D.las.flatten.length ≤ 1048576 := by omega
  generalize D.las.flatten.length = n at *
  rw [he]
  clear h h3 h5 hle hflat hd3 hdr he hk
  unfold maxLen at h2
  have HC0 : Hid (Keep NoF w (w.alloc (.cells #[.int .i64 k, .slice (some ⟨gd, od, none⟩) 128 dcap] 151)) ∧ (w.alloc (.cells #[.int .i64 k, .slice (some ⟨gd, od, none⟩) 128 dcap] 151)).heap[w.heap.size]? = some (.cells #[.int .i64 k, .slice (some ⟨gd, od, none⟩) 128 dcap] 151 (0, 0))) := ⟨Keep.alloc _ _ _, heap_alloc_new w _⟩
  go_enter Try.func99, Try.ntmps99
  go_wp2
  generalize (w.alloc (.cells #[.int .i64 k, .slice (some ⟨gd, od, none⟩) 128 dcap] 151)) = W1 at *
  have q0 := HLI.out W1 HC0.out.1
  have q1 := cell_at HC0.out.2 0 rfl
  have HC1 : Hid (Keep NoF w W1.drew ∧ W1.drew.heap[w.heap.size]? = some (.cells #[.int .i64 k, .slice (some ⟨gd, od, none⟩) 128 dcap] 151 (0, 0))) := ⟨HC0.out.1.trans' (Keep.drew _ _), HC0.out.2⟩
  go_still_tail 9, (by kernel_rfl)
  change wpList _ _ _ _ _ W1.drew
  clear q0 q1
  generalize W1.drew = wd at *
  obtain ⟨hk0, hh0⟩ := HC1.out
  refine (wpList_app22 rfl _ _ rfl w.heap.size _ 0 [] rfl (World.ownsRow_nil _ _ _ _) ⟨bl, 0, none⟩ (128 * k) lcap x1 rfl HL1.out (HN1.out _ hk0) HU1.out (by omega) hk0.size ?_)
  intro v1 w1 ho1 hg1 _
  have ho1' : w1.ownsRow w.heap.size 5 1 v1 (128 * k) x1 := by have h := ho1; rw [Nat.zero_add, List.nil_append] at h; exact h
  have hk1 : Keep NoF w w1 := hk0.trans' (Keep.grown hg1 (fun x hx => by cases hx))
  have hh1 := (Keep.grown (F := NoF) hg1 (fun x hx => by cases hx)).at hh0 (fun h => h)
  have HO1 := Lib.hid ho1'
  have HK1 := Lib.hid hk1
  have HH1 := Lib.hid hh1
  have g1 := cell_at hh1 1 rfl
  clear ho1 ho1' hg1 hk0 hh0 hk1 hh1 HC0 HC1 HN1 HL1 HU1
  go_wp2_with (at_builtin; go_must (refine wpList_app22 rfl _ _ rfl w.heap.size _ (128 * k) x1 rfl HO1.out ⟨gd, od, none⟩ 128 dcap x2 rfl HL2.out (HN2.out _ HK1.out) HU2.out (by omega) HK1.out.size ?_); intro v2 w2 ho2 hg2 _; have HO2 := Lib.hid ho2; have HK2 := Lib.hid (keep_grown HK1.out HO1.out hg2); have HH2 := Lib.hid (cell_grown HO1.out hg2 HH1.out); clear ho2 hg2)
  have q0 := HLI.out w2 HK2.out
  have q1 := cell_at HH2.out 0 rfl
  have HK2D : Hid (Keep NoF w w2.drew) := HK2.out.trans' (Keep.drew _ _)
  have HO2D : Hid (w2.drew.ownsRow w.heap.size 5 1 v2 (128 * k + 128) (x1 ++ x2)) := ownsRow_keep HO2.out (Keep.drew NoF w2) (fun _ _ h => h)
  have HV3 : Hid (∀ v3 w3, w3.ownsRow w.heap.size 5 1 v3 (128 * k + 128 + (n - (128 * k + 128))) (x1 ++ x2 ++ x3) → w2.drew.grownBy w3 v2.ownBlock → (∃ g3 c3, v3 = .slice (some ⟨g3, 0, none⟩) n c3) ∧ (w3.cell? ⟨r, 0, none⟩ = some (.slice (some ⟨bl, 0, none⟩) n lcap) ∧ w3.frozen? ⟨r, 0, none⟩ = false ∧ r < w3.heap.size) ∧ RefPost w r { D with las := D.las.set k e } F (w3.setCell ⟨r, 0, none⟩ v3)) := fun v3 w3 ho3 hg3 => by
    rw [show 128 * k + 128 + (n - (128 * k + 128)) = n by omega] at ho3
    exact ⟨own_pos2 ho3 (by omega), HPO.out (keep_grown HK2D.out HO2D.out hg3) ho3⟩
  clear HPO HLI
  by_cases hlc : lcap = 128 * k + 128
  · have hz : n - (128 * k + 128) = 0 := by omega
    have HX3 : Hid (x3 = []) := List.length_eq_zero_iff.1 (by have := HL3.out; omega)
    subst hlc
    obtain rfl : n = 128 * k + 128 := by omega
    go_region_law (refine step_of_wp (by rfl) (wp_app22 (.tmp 20) (.tmp 29) rfl w.heap.size v2 (128 * k + 128) (x1 ++ x2) (by simp [Act.eval, Act.put]) HO2D.out ⟨bl, 0, none⟩ (128 * k + 128 - (128 * k + 128)) (128 * k + 128 - (128 * k + 128)) x3 (by simp [Act.eval, Act.put]) HL3.out (by rw [HX3.out]; intro j u hj; simp at hj) HU3.out (by omega) HK2D.out.size ?_); intro v3 w3 ho3 hg3; obtain ⟨⟨g3, c3, rfl⟩, ⟨p1, p2, p3⟩, pp⟩ := HV3.out v3 w3 ho3 hg3; have HPP := Lib.hid pp; clear ho3 hg3 pp)
    all_goals
      go_wp2
      go_end0
      exact ⟨_, rfl, rfl, HPP.out⟩
  · go_region_law (refine step_of_wp (by rfl) (wp_app22 (.tmp 20) (.tmp 29) rfl w.heap.size v2 (128 * k + 128) (x1 ++ x2) (by simp [Act.eval, Act.put]) HO2D.out ⟨bl, 128 * k + 128, none⟩ (n - (128 * k + 128)) (lcap - (128 * k + 128)) x3 (by simp [Act.eval, Act.put]) HL3.out (HN3.out _ HK2D.out) HU3.out (by omega) HK2D.out.size ?_); intro v3 w3 ho3 hg3; obtain ⟨⟨g3, c3, rfl⟩, ⟨p1, p2, p3⟩, pp⟩ := HV3.out v3 w3 ho3 hg3; have HPP := Lib.hid pp; clear ho3 hg3 pp)
    all_goals
      go_wp2
      go_end0
      exact ⟨_, rfl, rfl, HPP.out⟩
end
end Go.Proofs.Ytghnbbpoaeheaaa
