/- The laws of single operations, at this program's types. -/
import Derived.Test.YtghnbbpoaeheaaaSeen
import Derived.Lib.LazyBuf
import Derived.WalkSpells
namespace Go.Proofs.Ytghnbbpoaeheaaa
open Go.RowKit

noncomputable def Zof (t : TypeId) : Array Value := (((Try.prog.info? t).bind (·.zero)).map (·.cells)).getD #[]
theorem size102 : (Try.prog.info? 102).map (·.size) = some 128 := by kernel_rfl
theorem size142 : (Try.prog.info? 142).map (·.size) = some 129 := by kernel_rfl
theorem zofs102 : (Zof 102).size = 128 := by kernel_rfl
theorem zofs142 : (Zof 142).size = 129 := by kernel_rfl
theorem zof102 : Zof 102 = Array.replicate 128 (.int .u8 0) := by kernel_rfl

section
variable {P : Program} {ops : Array Oper} {rest : List Oper} {o : Oper} {a : Act} {w : World} {Q : Exit → Act → World → Prop}

theorem wpList_alloc_Z (hgd : o.guard = none) (ty : TypeId) (ho : o.op = .alloc ty) (z : Value) (Z : Array Value) (hz : (zeroValue ty).run P w = .ok z w) (hZ : z.cells = Z)
    (h : wpList P ops Q rest (a.put o.dst (.pointer (some ⟨w.heap.size, 0, none⟩))) (w.alloc (.cells Z ty))) : wpList P ops Q (o :: rest) a w := by
  refine wpList_plain hgd fun K hK => ?_
  unfold Oper.wp
  have e : (newVar ty z).run P w = .ok ⟨w.heap.size, 0, none⟩ (w.alloc (.cells Z ty)) := by
    subst hZ; rfl
  simp only [execOp, ho, Instr.alloc, Sem.run_bind, hz, Result.andThen_ok, e, Sem.run_pure]
  exact hK _ _ h
theorem wpList_box_agg (hgd : o.guard = none) (ty : TypeId) (x : Operand) (ho : o.op = .box ty x) (v : Value) (hx : a.eval x = v)
    (h : wpList P ops Q rest (a.put o.dst (.pointer (some ⟨w.heap.size, 0, none⟩))) (w.alloc (.cells v.cells ty))) : wpList P ops Q (o :: rest) a w := by
  refine wpList_plain hgd fun K hK => ?_
  unfold Oper.wp
  have e : (newVar ty v).run P w = .ok ⟨w.heap.size, 0, none⟩ (w.alloc (.cells v.cells ty)) := rfl
  simp only [execOp, ho, hx, Instr.box, Sem.run_bind, Result.andThen_ok, e, Sem.run_pure]
  exact hK _ _ h

theorem alloc_setRow (w : World) (Z C : Array Value) (t : TypeId) : (w.alloc (.cells Z t)).setRow w.heap.size C = w.alloc (.cells C t) := by
  have e : ∀ f : Obj → Obj, f (.cells Z t) = .cells C t → (w.alloc (.cells Z t)).heap.modify w.heap.size f = (w.alloc (.cells C t)).heap := fun f hf => by
    show (w.heap.push (.cells Z t)).modify w.heap.size _ = w.heap.push (.cells C t)
    apply Array.ext_getElem?
    intro i
    rw [Array.getElem?_modify, Array.getElem?_push, Array.getElem?_push]
    split
    · rename_i e; subst e; simp [hf]
    · rename_i e; rw [if_neg (fun h => e h.symm), if_neg (fun h => e h.symm)]
  unfold World.setRow
  rw [e _ rfl]
  rfl

/-- A whole row stored into the variable that was made last. -/
theorem wpList_store_new (hgd : o.guard = none) (ty : TypeId) (x y : Operand) (ho : o.op = .store ty x y) (Z cells : Array Value) (t : TypeId)
    (hx : a.eval x = .pointer (some ⟨w.heap.size, 0, none⟩)) (hy : a.eval y = .agg cells) (hi : (P.info? ty).map (·.size) = some cells.size) (hZ : Z.size = cells.size)
    (h1 : cells.all (·.oneCell') = true) (h : wpList P ops Q rest (a.put o.dst undef) (w.alloc (.cells cells t))) : wpList P ops Q (o :: rest) a (w.alloc (.cells Z t)) := by
  refine wpList_store_row hgd ty x y ho w.heap.size cells hx hy t Z (heap_alloc_new w _) hi hZ h1 ?_
  rw [alloc_setRow]; exact h
end

theorem i5 : (Try.prog.info? 5).map (fun i => (i.zero, i.size, i.bytes)) = some (some (.int .u8 0), 1, 1) := by kernel_rfl
theorem i3 : (Try.prog.info? 3).map (fun i => (i.zero, i.size, i.bytes)) = some (some (.int .i64 0), 1, 8) := by kernel_rfl
theorem i142 : (Try.prog.info? 142).map (fun i => (i.zero.map (·.cells), i.size, i.bytes)) = some (some (Zof 142), 129, 136) := by kernel_rfl
theorem info_of {P : Program} {t : TypeId} {α : Type} {f : TypeInfo → α} {x : α} (h : (P.info? t).map f = some x) : ∃ i, P.info? t = some i ∧ f i = x := by
  cases hq : P.info? t with
  | none => rw [hq] at h; cases h
  | some i => rw [hq] at h; exact ⟨i, rfl, by simpa using h⟩

section
variable {ops : Array Oper} {rest : List Oper} {o : Oper} {a : Act} {w : World} {Q : Exit → Act → World → Prop}
/-- 'append' onto a row of bytes of the call's own. -/
theorem wpList_app22 (hgd : o.guard = none) (s x : Operand) (ho : o.op = .call { callee := .builtin .append, args := #[s, x], argTypes := #[22, 22] })
    (base : Nat) (v : Value) (n : Nat) (xs : List Value) (hs : a.eval s = v) (hown : w.ownsRow base 5 1 v n xs)
    (ad : Addr) (m c : Nat) (news : List Value) (hx : a.eval x = .slice (some ad) m c) (hl : news.length = m) (hnews : ∀ j u, news[j]? = some u → w.cell? (ad.add j) = some u) (h1 : ∀ u ∈ news, u.oneCell' = true)
    (hb : n + m ≤ 1073741824) (hbase : base ≤ w.heap.size)
    (h : ∀ v' w', w'.ownsRow base 5 1 v' (n + m) (xs ++ news) → w.grownBy w' v.ownBlock → (v' = .slice none 0 0 ↔ v = .slice none 0 0 ∧ m = 0) → wpList Try.prog ops Q rest (a.put o.dst v') w') : wpList Try.prog ops Q (o :: rest) a w := by
  obtain ⟨i, hi, he⟩ := info_of i5
  simp only [Prod.mk.injEq] at he
  exact wpList_append_own w hgd s x 22 ho base 5 i (.int .u8 0) 1 1 Try.underlying22 hi he.1 he.2.1 he.2.2 rfl (by decide) v n xs hs hown ad m c news hx (by omega) hnews h1 (by unfold maxLen; omega) (by omega) hbase h
theorem wpList_app76 (hgd : o.guard = none) (s x : Operand) (ho : o.op = .call { callee := .builtin .append, args := #[s, x], argTypes := #[76, 76] })
    (base : Nat) (v : Value) (n : Nat) (xs : List Value) (hs : a.eval s = v) (hown : w.ownsRow base 3 1 v n xs)
    (ad : Addr) (m c : Nat) (news : List Value) (hx : a.eval x = .slice (some ad) m c) (hl : news.length = m) (hnews : ∀ j u, news[j]? = some u → w.cell? (ad.add j) = some u) (h1 : ∀ u ∈ news, u.oneCell' = true)
    (hb : n + m ≤ 1073741824) (hbase : base ≤ w.heap.size)
    (h : ∀ v' w', w'.ownsRow base 3 1 v' (n + m) (xs ++ news) → w.grownBy w' v.ownBlock → (v' = .slice none 0 0 ↔ v = .slice none 0 0 ∧ m = 0) → wpList Try.prog ops Q rest (a.put o.dst v') w') : wpList Try.prog ops Q (o :: rest) a w := by
  obtain ⟨i, hi, he⟩ := info_of i3
  simp only [Prod.mk.injEq] at he
  exact wpList_append_own w hgd s x 76 ho base 3 i (.int .i64 0) 1 8 Try.underlying76 hi he.1 he.2.1 he.2.2 rfl (by decide) v n xs hs hown ad m c news hx (by omega) hnews h1 (by unfold maxLen; omega) (by omega) hbase h
end

/-- The call returns a value of which Q holds, in a world of which Q holds. -/
def Gives (Q : Value → World → Prop) (e : Ending) (w' : World) : Prop := ∃ v, e = .returned v ∧ Q v w'
def NoF : Nat → Prop := fun _ => False

/-- A fresh list of bytes; nothing that was there has turned. -/
def FreshB (w : World) (xs : List Int) (v : Value) (w' : World) : Prop := OwnB w' w.heap.size v xs ∧ Keep NoF w w'

theorem clone_any (bb o cap : Nat) (xs : List Int) (w : World) (hn : 0 < xs.length) (hlen : xs.length ≤ 1073741824) (hr : w.rangeAt bb o (u8s xs)) :
    Calls Try.prog 83 #[.slice (some ⟨bb, o, none⟩) xs.length cap] w (Gives (FreshB w xs)) := by
  have hq := fun (w : World) (a : Option Addr) (n c : Nat) => Lib.run_eql_slice_nil (P := Try.prog) w 22 5 a n c 0 0 Try.underlying22
  have h0 : (w.alloc (.cells #[] 5)).ownsRow w.heap.size 5 1 (.slice (some ⟨w.heap.size, 0, none⟩) 0 0) 0 [] := World.ownsRow_made (base := w.heap.size) (e := 5) (size := 1) w #[] 0 (Nat.le_refl _) (by simp [maxLen]) rfl
  have HL := Lib.hid hlen
  clear hlen
  go_enter Try.func83, Try.ntmps83
  go_wp2_with (at_builtin; go_must (refine wpList_app22 rfl _ _ rfl w.heap.size _ 0 [] rfl h0 ⟨bb, o, none⟩ xs.length cap (u8s xs) rfl ?c1 ?c2 ?c3 ?c4 ?c5 ?_))
  case c1 => simp
  case c2 => intro j u hu; rw [Addr.add_mid]; exact World.rangeAt_alloc hr _ j u hu
  case c3 => exact u8s_one xs
  case c4 => have := HL.out; omega
  case c5 => simp
  intro v' w' hown hg _
  go_wp2
  go_ret
  exact ⟨_, rfl, hown, (Keep.alloc _ _ _).trans (Keep.grown (F := (· = w.heap.size)) hg (by intro k hk; simpa [Value.ownBlock] using hk.symm)) (by intro x hx e; have e1 : x = w.heap.size := e; omega)⟩
end Go.Proofs.Ytghnbbpoaeheaaa
