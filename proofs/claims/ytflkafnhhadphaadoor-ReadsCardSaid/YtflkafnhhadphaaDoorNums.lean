/- An argument []int opened. -/
import Derived.Test.YtflkafnhhadphaaDoorChecked
import Derived.Test.YtflkafnhhadphaaDoorLaw
import Derived.Test.YtflkafnhhadphaaDoorPieces
namespace Go.Proofs.YtflkafnhhadphaaDoor
open Go Go.RowKit Go.WideShapes Go.ChangeShapes Go.ChangeAt
set_option linter.unusedVariables false

theorem cellsInt : Tryd.prog.cellsOf 3 = 1 := by kernel_rfl
theorem bytesInt : Tryd.prog.bytesOf 3 = 8 := by kernel_rfl
section
variable {H : Type} {enc : TypeId × Value → H}
theorem open_num {w : World} {base : Nat} {spare : Nat → Bool} {held : Bool} {fuel : Nat} {cs : List Value} {x : DataW H × List MemPlace} (h : DataW.trod enc Tryd.prog w base spare held fuel 3 cs = some x) :
    ∃ z : Int, cs = [.int .i64 z] ∧ -9223372036854775808 ≤ z ∧ z ≤ 9223372036854775807 := by
  obtain ⟨k, e1, z1, hw⟩ := DataW.trod_int Tryd.underlying3 h
  refine ⟨k, e1, ?_⟩
  simp [Lit.wf, IntKind.min, IntKind.max, IntKind.signed, IntKind.bits] at hw
  omega
set_option maxRecDepth 100000 in
theorem open_nums {W : World} {base : Nat} {v : Value} {d : DataW H} {p : List MemPlace} (hv : Value.okWide Tryd.prog W .any base 36 v) (h : DataW.Trod enc Tryd.prog W 0 (fun _ => true) true 36 v d p) (hz : ∀ n ∈ d.weights Tryd.prog 36, n ≤ reachBytes) :
    ∃ l : List Int, Rd W 1 v l.length (intCells l) ∧ l.length ≤ 140737488355328 ∧ ∀ z ∈ l, -9223372036854775808 ≤ z ∧ z ≤ 9223372036854775807 := by
  obtain ⟨a0, len, cap, rfl⟩ := okWide_slice Tryd.underlying36 hv
  obtain ⟨fuel, hf⟩ := h
  have hr := reachBytes_lt
  rcases Deep.open_slice Tryd.underlying36 (show DataW.trod enc Tryd.prog W 0 (fun _ => true) true fuel 36 [.slice a0 len cap] = some (d, p) from hf) with ⟨h1, h2⟩ | ⟨a, len', cap', m, n, D, Pl, h1, hb, hl, hcm, hm, hx, hi⟩
  · cases h1
    exact ⟨[], ⟨rfl, .inl ⟨_, _, rfl, rfl, by simp [maxLen]⟩⟩, by simp, fun z hz => by cases hz⟩
  · cases h1
    simp only [if_true] at hm
    subst hm
    have hx1 : d = .slice ((List.range len).map D) ((List.range (m - len)).map fun j => D (len + j)) := (Prod.mk.inj hx).1
    rw [cellsInt] at hi
    have hnum : ∀ i, i < len → ∃ z : Int, W.cells? 0 (a.add (i * 1)) 1 = some [.int .i64 z] ∧ -9223372036854775808 ≤ z ∧ z ≤ 9223372036854775807 := by
      intro i hil
      obtain ⟨cs, hc, ht⟩ := hi i (by omega)
      obtain ⟨z, rfl, hd⟩ := open_num ht
      exact ⟨z, hc, hd⟩
    obtain ⟨F, hF⟩ := Deep.choose_lt hnum
    have hlen : ((List.range len).map F).length = len := by simp
    refine ⟨(List.range len).map F, ?_, ?_, ?_⟩
    · rw [hlen]
      refine ⟨by simp [intCells], ?_⟩
      by_cases h0 : len = 0
      · subst h0
        exact .inl ⟨_, _, rfl, rfl, hcm⟩
      · right
        have hc0 : ∀ i, i < len → ∀ j, j < 1 → W.cell? ((a.add (i * 1)).add j) = [Value.int .i64 (F i)][j]? := fun i hil => (World.cells?_some (hF i hil).1).2.2
        have hsp : a.spot = none := by
          have := hc0 0 (by omega) 0 (by omega)
          simp only [Nat.zero_mul, Addr.add, if_true] at this
          exact World.cell?_spot this
        obtain ⟨b, off, sp⟩ := a
        simp only at hsp
        subst hsp
        have hbl : b < W.heap.size := by
          have := hc0 0 (by omega) 0 (by omega)
          simp only [Nat.zero_mul, Addr.add, if_true] at this
          rcases Nat.lt_or_ge b W.heap.size with h' | h'
          · exact h'
          · rw [World.cell?, Array.getElem?_eq_none h'] at this; cases this
        refine ⟨b, off, m, rfl, hl, hcm, hbl, fun j hj => ?_⟩
        have hq := hc0 j (by omega) 0 (by omega)
        rw [Addr.add_lit, Addr.add_lit, show off + j * 1 + 0 = off + j by omega] at hq
        rw [hq]
        have hjl : j < len := by omega
        simp [intCells, hjl]
    · have := hz ((len + (m - len)) * 8) (by
        rw [hx1]
        simp only [DataW.weights, Tryd.underlying36, List.length_map, List.length_range, bytesInt]
        exact List.mem_cons_self ..)
      rw [hlen]
      omega
    · intro z hz
      obtain ⟨i, hil, rfl⟩ := List.mem_map.1 hz
      exact (hF i (List.mem_range.1 hil)).2
end
end Go.Proofs.YtflkafnhhadphaaDoor
