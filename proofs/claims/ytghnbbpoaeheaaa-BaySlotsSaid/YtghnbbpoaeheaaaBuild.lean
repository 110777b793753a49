/- Values put together: the entry of a cache, slices of one element. -/
import Derived.Test.YtghnbbpoaeheaaaDisk2
namespace Go.Proofs.Ytghnbbpoaeheaaa
open Go.RowKit

theorem foldl_over : ∀ (vs : List Value) (cs : Array Value) (off k : Nat), (vs.zipIdx k).foldl (fun cs (x : Value × Nat) => cs.setIfInBounds (off + x.2) x.1) cs = over cs (off + k) vs
  | [], _, _, _ => rfl
  | v :: r, cs, off, k => by
    rw [List.zipIdx_cons, List.foldl_cons, over, foldl_over r _ off (k + 1)]
    rfl
theorem foldl_over' (vs : Array Value) (cs : Array Value) (off : Nat) : vs.zipIdx.foldl (fun cs (x : Value × Nat) => cs.setIfInBounds (off + x.2) x.1) cs = over cs off vs.toList := by
  rw [← Array.foldl_toList, Array.toList_zipIdx, foldl_over]
  rfl
theorem over_all (vs : List Value) (cs : Array Value) (h : vs.length = cs.size) : over cs 0 vs = vs.toArray := by
  apply Array.ext_getElem?
  intro i
  rw [get_over vs cs 0 i (by omega)]
  by_cases hi : i < vs.length
  · rw [if_pos ⟨Nat.zero_le _, by omega⟩]; simp
  · have h1 : cs.size ≤ i := by omega
    have h2 : vs.length ≤ i := by omega
    rw [if_neg (by omega), Array.getElem?_eq_none h1]; simp [h2]
theorem over_two (v : Value) (vs : List Value) (cs : Array Value) (h : vs.length + 1 = cs.size) : over (over cs 0 [v]) 1 vs = (v :: vs).toArray := by
  have e : over (over cs 0 [v]) 1 vs = over cs 0 (v :: vs) := rfl
  rw [e]
  exact over_all (v :: vs) cs (by simpa using h)

theorem under142 (w : World) : ∃ f0 f1, (underlying 142).run Try.prog w = .ok (.struct #[f0, f1]) w ∧ f0.offset = 0 ∧ f1.offset = 1 ∧ f0.type = 3 ∧ f1.type = 102 := ⟨{ name := "at", type := 3, offset := 0, byteOffset := 0, embedded := false, tag := "", pkgPath := "spindle/disk" }, { name := "data", type := 102, offset := 1, byteOffset := 8, embedded := false, tag := "", pkgPath := "spindle/disk" }, by kernel_rfl, rfl, rfl, rfl, rfl⟩
theorem sz3 (w : World) : (sizeOf 3).run Try.prog w = .ok 1 w := by kernel_rfl
theorem sz102 (w : World) : (sizeOf 102).run Try.prog w = .ok 128 w := by kernel_rfl
theorem sz142 (w : World) : (sizeOf 142).run Try.prog w = .ok 129 w := by kernel_rfl
theorem under97 (w : World) : (underlying 97).run Try.prog w = .ok (.slice 142) w := by kernel_rfl

/-- 'write{at: k, data: x}'. -/
theorem run_build142 (k : Int) (x : Array Value) (hx : x.size = 128) (w : World) : (Instr.build 142 #[(0, .int .i64 k), (1, .agg x)]).run Try.prog w = .ok (.agg (.int .i64 k :: x.toList).toArray) w := by
  obtain ⟨z, hz, hZ⟩ := zv142 w
  obtain ⟨f0, f1, hu, o0, o1, t0, t1⟩ := under142 w
  unfold Instr.build
  simp only [Sem.run_bind, hz, Result.andThen_ok, hu, hZ]
  have hm : (Array.mapM (fun f : Field => do pure (f.offset, ← sizeOf f.type)) #[f0, f1] : Sem _).run Try.prog w = .ok #[(0, 1), (1, 128)] w := by
    simp [Sem.run_bind, o0, o1, t0, t1, sz3, sz102]
  rw [hm]
  have hf : Instr.fill (fun i => (#[(0, 1), (1, 128)] : Array (Nat × Nat))[i]?) (Zof 142) [(0, .int .i64 k), (1, .agg x)] = some (.int .i64 k :: x.toList).toArray := by
    have hs : (over (Zof 142) 0 [.int .i64 k]).size = 129 := by rw [size_over]; exact zofs142
    have h1 : Instr.fill (fun i => (#[(0, 1), (1, 128)] : Array (Nat × Nat))[i]?) (Zof 142) [(0, .int .i64 k), (1, .agg x)] =
        if (#[Value.int .i64 k] : Array Value).size ≠ 1 || 0 + (#[Value.int .i64 k] : Array Value).size > (Zof 142).size then none
        else if x.size ≠ 128 || 1 + x.size > ((#[Value.int .i64 k] : Array Value).zipIdx.foldl (fun cs (p : Value × Nat) => cs.setIfInBounds (0 + p.2) p.1) (Zof 142)).size then none
        else some (x.zipIdx.foldl (fun cs (p : Value × Nat) => cs.setIfInBounds (1 + p.2) p.1) ((#[Value.int .i64 k] : Array Value).zipIdx.foldl (fun cs (p : Value × Nat) => cs.setIfInBounds (0 + p.2) p.1) (Zof 142))) := rfl
    rw [h1, foldl_over', foldl_over', hs, zofs142, hx]
    exact congrArg some (over_two (.int .i64 k) x.toList (Zof 142) (by rw [zofs142]; simp [hx]))
  simp only [Result.andThen_ok]
  erw [hf]
  rfl
/-- '[]write{e}'. -/
theorem run_buildSlice97 (x : Array Value) (hx : x.size = 129) (w : World) : (Instr.buildSlice 97 1 #[(0, .agg x)]).run Try.prog w = .ok (.slice (some ⟨w.heap.size, 0, none⟩) 1 1) (w.alloc (.cells x 142)) := by
  obtain ⟨z, hz, hZ⟩ := zv142 w
  unfold Instr.buildSlice
  simp only [Sem.run_bind, under97, sz142, Result.andThen_ok]
  rw [if_neg (by decide)]
  simp only [Nat.one_mul]
  have h129 : ¬ (129 : Nat) = 0 := by decide
  simp only [h129, ↓reduceIte, Sem.run_bind, hz, Result.andThen_ok, Sem.run_pure, hZ]
  have hf : Instr.fill (fun i => some (i * 129, 129)) ((Array.range 129).map ((Zof 142)[· % (Zof 142).size]!)) [(0, .agg x)] = some x := by
    have h1 : Instr.fill (fun i => some (i * 129, 129)) ((Array.range 129).map ((Zof 142)[· % (Zof 142).size]!)) [(0, .agg x)] =
        if x.size ≠ 129 || 0 + x.size > ((Array.range 129).map ((Zof 142)[· % (Zof 142).size]!)).size then none
        else some (x.zipIdx.foldl (fun cs (p : Value × Nat) => cs.setIfInBounds (0 + p.2) p.1) ((Array.range 129).map ((Zof 142)[· % (Zof 142).size]!))) := rfl
    rw [h1, foldl_over', hx, Array.size_map, Array.size_range]
    have := over_all x.toList ((Array.range 129).map ((Zof 142)[· % (Zof 142).size]!)) (by simp [hx])
    rw [this]
    simp
  erw [hf]
  rfl
theorem under102 (w : World) : (underlying 102).run Try.prog w = .ok (.array 128 5) w := by kernel_rfl
theorem run_arrayAt102 (a : Option Addr) (n c : Nat) (hn : 128 ≤ n) (w : World) : (Instr.arrayAt 102 (.slice a n c)).run Try.prog w = .ok (.pointer a) w := by
  unfold Instr.arrayAt
  simp only [Sem.run_bind, under102, Result.andThen_ok]
  rw [if_neg (by omega)]
  rfl
end Go.Proofs.Ytghnbbpoaeheaaa
