import Derived.Test.YtadfdknlogceoaaRows
import Derived.ProofKit
import Derived.Below
import Derived.Carry
import Derived.Deep.SlicePairs
import Derived.SizedLaws
import Derived.Test.YtadfdknlogceoaaKt
set_option linter.all false
open Go Go.Hv Go.RowKit Go.ChangeShapes Go.WideShapes Go.ChangeAt
set_option maxRecDepth 100000
namespace Go.Proofs.G
/-- the world's environment -/
def envOf (w : World) : Env := ⟨w.tape, w.os, w.output⟩
theorem below_of {W w' : World} {h' : Heap} (ha : At (envOf W) h' w') (O : Old W.heap.size W.heap h') : Below W.heap.size W w' := by
  obtain ⟨rfl, h2, h3, h4⟩ := ha
  exact ⟨h3, h2, h4, O.size, fun k hk => O.get k hk⟩
theorem calls_of {f : FuncId} {args : Array Value} {W : World} (h : HCalls P f args W.heap fun v h' => v = .bool true ∧ Old W.heap.size W.heap h') : Calls Try.prog f args W fun e w' => e = .returned (.bool true) ∧ Below W.heap.size W w' :=
  (h (envOf W) W ⟨rfl, rfl, rfl, rfl⟩).mono fun _ _ ⟨v, h', he, ha, hv, O⟩ => ⟨by rw [he, hv], below_of ha O⟩
theorem has_lt {W : World} {r : Reach} {base : Nat} {a : Addr} {e : TypeId} {n : Nat} (h : World.has Try.prog W r base a e n) : a.spot = none ∧ a.block < W.heap.size := by
  obtain ⟨_, h2, row, cells, h3, _⟩ := h
  refine ⟨h2, ?_⟩
  by_cases hb : a.block < W.heap.size
  · exact hb
  · have : W.heap[a.block]? = none := by simp at hb ⊢; exact hb
    unfold World.shape? at h3
    rw [this] at h3; cases h3
theorem ok_ptr {W : World} {r : Reach} {base : Nat} {t e : TypeId} {a : Addr} {len cap : Nat} (ht : Try.prog.underlying t = some (.slice e)) (h : Value.okWide Try.prog W r base t (.slice (some a) len cap)) : a.spot = none ∧ a.block < W.heap.size ∧ len ≤ cap ∧ (cap : Int) ≤ IntKind.i64.max := by
  simp only [Value.okWide, ht, Cell.okWide, Cell.ok] at h
  obtain ⟨h1, h2, h3⟩ := h
  exact ⟨(has_lt h3).1, (has_lt h3).2, h1, h2⟩
theorem wf_u64 {n : Int} (h : (Lit.int .u64 n).wf = true) : n = ((n.toNat : Nat) : Int) := by
  simp only [Lit.wf, Bool.and_eq_true, decide_eq_true_eq] at h
  have : IntKind.u64.min = 0 := by decide
  omega
/-- a slice of nodes that came in -/
theorem in_refs {base : Nat} {H : Type} {enc : TypeId × Value → H} {W : World} {v : Value} {d : DataW H} {p : List MemPlace} (hv : Value.okWide Try.prog W .any base 22 v) (h : DataW.Trod enc Try.prog W 0 (fun _ => true) true 22 v d p) : ∃ l, Rs W.heap.size W.heap v l ∧ l.length ≤ 9223372036854775807 ∧ ((d = .nil ∧ l = []) ∨ ∃ es sp, d = .slice es sp ∧ es.length = l.length) := by
  obtain ⟨a0, len, cap, rfl⟩ := Go.WideShapes.okWide_slice Try.underlying22 hv
  obtain ⟨fuel, hf⟩ := h
  rcases open_ints Try.underlying22 Try.underlying41 (by kernel_rfl) hf with ⟨hcs, hxx⟩ | ⟨a, len', cap', zs, hcs, _, hl, hm, hz, hxx, hcell, hwz⟩
  · simp only [Value.cells, List.cons.injEq, and_true] at hcs
    cases hcs
    exact ⟨[], Rs.nil _ _, by simp, .inl ⟨(Prod.mk.inj hxx).1, rfl⟩⟩
  · have hcs : Value.slice a0 len cap = .slice (some a) len' cap' := by simpa [Value.cells] using hcs
    cases hcs
    obtain ⟨hsp, hb, h1, h2⟩ := ok_ptr Try.underlying22 hv
    simp only [if_true] at hz
    have hmax : IntKind.i64.max = 9223372036854775807 := by decide
    have hlen : ((zs.take len).map Int.toNat).length = len := by simp; omega
    refine ⟨(zs.take len).map Int.toNat, ⟨⟨some a, cap, ?_, ?_, ?_, ?_⟩, ?_⟩, ?_, .inr ⟨_, _, (Prod.mk.inj hxx).1, by simp [lits]⟩⟩
    · rw [List.length_map, hlen]
    · rw [List.length_map, hlen]; exact hl
    · intro a' ha'; cases ha'; exact hsp
    · intro i x hx
      refine ⟨a, rfl, ?_⟩
      rw [List.getElem?_map, List.getElem?_map] at hx
      have hi : i < len := by
        by_cases hi : i < len
        · exact hi
        · rw [List.getElem?_eq_none (by simp; omega)] at hx; simp at hx
      rw [List.getElem?_take_of_lt hi] at hx
      have hzi : zs[i]? = some (zs.getD i 0) := by
        rw [List.getD_eq_getElem?_getD, List.getElem?_eq_getElem (by omega)]; rfl
      rw [hzi] at hx
      simp only [Option.map_some, Option.some.injEq] at hx
      have hw := wf_u64 (hwz (zs.getD i 0) (List.mem_of_getElem? hzi))
      have hc := hcell i (by omega)
      have : cell W.heap (a.add i) = some (.int .u64 (zs.getD i 0)) := hc
      rw [this, ← hx]
      congr 2
    · intro c hc
      have : a.block = c := by simpa [blkOf] using hc
      omega
    · rw [hlen]; omega
/-- .. its size -/
theorem in_size {H : Type} {ts : List TypeId} {ds : List (DataW H)} (h : (DataW.weightsEach Try.prog ts ds).all (· ≤ reachBytes) = true) {j : Nat} {d : DataW H} {l : List Nat} (ht : ts[j]? = some 22) (hd : ds[j]? = some d) (hh : (d = .nil ∧ l = []) ∨ ∃ es sp, d = .slice es sp ∧ es.length = l.length) : l.length * 8 ≤ 140737488351232 := by
  rcases hh with ⟨_, rfl⟩ | ⟨es, sp, rfl, he⟩
  · simp
  · have := sized_slice h ht hd Try.underlying22
    have hb : Try.prog.bytesOf 41 = 8 := by kernel_rfl
    rw [hb] at this
    simp only [reachBytes] at this
    omega
/-- a node that came in -/
theorem in_ref {base : Nat} {H : Type} {enc : TypeId × Value → H} {W : World} {v : Value} {d : DataW H} {p : List MemPlace} (hv : Value.okWide Try.prog W .any base 41 v) (h : DataW.Trod enc Try.prog W 0 (fun _ => true) true 41 v d p) : ∃ a : Nat, v = R a ∧ True := by
  obtain ⟨x, rfl, _, _, wx⟩ := open_int Try.underlying41 hv h
  exact ⟨x.toNat, congrArg _ (wf_u64 wx), trivial⟩
/-- a slice of edges that came in -/
theorem in_edges {base : Nat} {H : Type} {enc : TypeId × Value → H} {W : World} {v : Value} {d : DataW H} {p : List MemPlace} (hv : Value.okWide Try.prog W .any base 23 v) (h : DataW.Trod enc Try.prog W 0 (fun _ => true) true 23 v d p) : ∃ l, Ed W.heap.size W.heap v l := by
  obtain ⟨a0, len, cap, rfl⟩ := Go.WideShapes.okWide_slice Try.underlying23 hv
  obtain ⟨fuel, hf⟩ := h
  rcases Go.Deep.open_slice_pairs Try.underlying23 Try.underlying57 (by kernel_rfl) rfl rfl (by kernel_rfl) (by kernel_rfl) hf with ⟨hcs, _⟩ | ⟨a, len', cap', m, n, V0, V1, D0, D1, P0, P1, hcs, _, hl, hm, hmm, _, hcell⟩
  · simp only [Value.cells, List.cons.injEq, and_true] at hcs
    cases hcs
    exact ⟨[], ⟨⟨none, 0, rfl, fun a ha => (by cases ha), fun i x y hi => by simp at hi⟩⟩⟩
  · have hcs : Value.slice a0 len cap = .slice (some a) len' cap' := by simpa [Value.cells] using hcs
    cases hcs
    obtain ⟨hsp, hb, h1, h2⟩ := ok_ptr Try.underlying23 hv
    simp only [if_true] at hmm
    have each : ∀ i, i < m → ∃ x y : Nat, V0 i = R x ∧ V1 i = R y := by
      intro i hi
      obtain ⟨_, _, h3, h4⟩ := hcell i hi
      obtain ⟨x, ex, _, wx⟩ := DataW.trod_int Try.underlying41 h3
      obtain ⟨y, ey, _, wy⟩ := DataW.trod_int Try.underlying41 h4
      simp only [List.cons.injEq, and_true] at ex ey
      exact ⟨x.toNat, y.toNat, by rw [ex]; exact congrArg _ (wf_u64 wx), by rw [ey]; exact congrArg _ (wf_u64 wy)⟩
    have ch : ∃ fx fy : Nat → Nat, ∀ i, i < m → V0 i = R (fx i) ∧ V1 i = R (fy i) := by
      refine ⟨fun i => if h : i < m then Classical.choose (each i h) else 0, fun i => if h : i < m then Classical.choose (Classical.choose_spec (each i h)) else 0, fun i hi => ?_⟩
      simp only [hi, dif_pos]
      exact Classical.choose_spec (Classical.choose_spec (each i hi))
    obtain ⟨fx, fy, hfx⟩ := ch
    obtain ⟨ab, ao, asp⟩ := a
    simp only at hsp hb
    subst hsp
    refine ⟨(List.range len).map fun i => (fx i, fy i), ⟨⟨some ⟨ab, ao, none⟩, cap, by simp, fun a' ha' => (by cases ha'; exact ⟨rfl, hb⟩), fun i x y hi => ⟨_, rfl, ?_⟩⟩⟩⟩
    have hil : i < len := by
      by_cases h : i < len
      · exact h
      · rw [List.getElem?_eq_none (by simp; omega)] at hi; cases hi
    simp only [List.getElem?_map, List.getElem?_range hil, Option.map_some, Option.some.injEq, Prod.mk.injEq] at hi
    obtain ⟨rfl, rfl⟩ := hi
    obtain ⟨c0, c1, _, _⟩ := hcell i (by omega)
    obtain ⟨e0, e1⟩ := hfx i (by omega)
    rw [Addr.add_add0] at c0 c1
    rw [e0] at c0
    rw [e1] at c1
    exact ⟨c0, c1⟩
end Go.Proofs.G
namespace Go.Proofs.Ytadfdknlogceoaa
open Go.Proofs.G
theorem Try.own : ownKnob Try.prog.godebug = none := by kernel_rfl
theorem Try.laidOut : laidOutB Try.prog = true := by kernel_rfl
end Go.Proofs.Ytadfdknlogceoaa
