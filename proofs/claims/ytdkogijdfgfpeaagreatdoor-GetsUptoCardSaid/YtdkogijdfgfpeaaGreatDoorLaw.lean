/- What closes a law: each argument reads behind the call as it read before, for any readable types; a list of nodes opened. -/
import Derived.Test.YtdkogijdfgfpeaaGreatDoorChecked
import Derived.Test.YtdkogijdfgfpeaaGreatDoorPackw
import Derived.ProofKit
import Derived.OpenShut
import Derived.SizedLaws
import Derived.WideKeyArgs
import Derived.Deep.Slices
import Derived.Deep.Fields
import Derived.Deep.DeepHandedRow
import Derived.Deep.DeepWitnessRowRef
import Derived.Lib.LaidIn
import Derived.Lib.LaidU8T
import Derived.Lib.LaidTab
namespace Go.Proofs.YtdkogijdfgfpeaaGreatDoor
open Go Go.RowKit Go.WideShapes Go.ChangeShapes Go.ChangeAt
set_option linter.unusedVariables false

section
variable {H : Type} {enc : TypeId × Value → H} {P : Program}
theorem below_same {B : Nat} {w w' : World} (h : Below B w w') {p : MemPlace} (hp : p.block < B) : w.sameAt w' p := by
  cases p with
  | cell b o => exact h.cell (p := ⟨b, o, none⟩) hp
  | map b => exact h.block b hp
theorem trodAll_stays (hl : laidOutB P = true) {W W' : World} {sp : Nat → Bool} : ∀ (ts : List TypeId) (vs : List Value) (ds : List (DataW H)) (ps : List MemPlace),
    DataW.TrodAll enc P W 0 (fun _ => true) true ts vs ds ps → (∀ t ∈ ts, P.readableRec t = true ∧ t < P.types.size) → (∀ p ∈ ps, W.sameAt W' p) → (∀ p ∈ ps, sp p.block = true) → DataW.TrodAll enc P W' 0 sp true ts vs ds ps
  | [], vs, ds, ps, h, _, _, _ => by
    obtain ⟨rfl, rfl, rfl⟩ := trodAll_nil h
    exact trodAll_mk0
  | t :: ts, vs, ds, ps, h, ht, hs, hp => by
    obtain ⟨v, vs', d, ds', p, q, rfl, rfl, rfl, h1, h2⟩ := trodAll_cons h
    obtain ⟨hr, hz⟩ := ht t (List.mem_cons_self ..)
    exact trodAll_cons_mk (WideElems.Trod_stays hl hr hz h1 (fun x hx => hs x (List.mem_append_left _ hx)) (fun x hx => hp x (List.mem_append_left _ hx)))
      (trodAll_stays hl ts vs' ds' q h2 (fun t' h' => ht t' (List.mem_cons_of_mem _ h')) (fun x hx => hs x (List.mem_append_right _ hx)) (fun x hx => hp x (List.mem_append_right _ hx)))
/-- a law answers true, and has left all that was there -/
theorem post_law {f : Func} {s : ChangeSpec} {apart fresh handsOn : Bool} {W W' : World} {args : Array Value} {ds gs : List (DataW H)} {before : List MemPlace} (t4 : TypeId)
    (hl : laidOutB P = true) (ht : ∀ t ∈ f.params.toList, P.readableRec t = true ∧ t < P.types.size) (hv : s.vars = []) (hr : f.resultTypes = #[t4]) (h4 : P.underlying t4 = some .bool)
    (hW : DataW.Whole enc P f.params.toList s.vars apart W args.toList ds gs before) (hfn : (s.fn H (ds ++ gs)).results = [.lit (.bool true)] ∧ (s.fn H (ds ++ gs)).args = ds ∧ (s.fn H (ds ++ gs)).vars = [])
    (hb : Below W.heap.size W W') : s.post enc P f apart fresh handsOn false W args (.bool true) W' := by
  have hlt : ∀ p ∈ before, p.block < W.heap.size := fun p hp => hW.lt p hp
  obtain ⟨p, q, hA, hV, rfl, -, -⟩ := id hW
  rw [hv] at hV
  obtain ⟨rfl, rfl⟩ := trodVars_none hV
  refine ⟨ds, [], p ++ [], [], p, [], hW, ?_, ?_, ?_, World.keptBut_mono (fun x hx => ⟨hx, .inr (.inl (by simpa using hx))⟩) (hb.frame (· ∈ p ++ [])), fun h => by cases h⟩
  · rw [hfn.1, hr]
    exact trodAll_mk1 (shut_bool h4 _)
  · rw [hfn.2.1]
    exact trodAll_stays hl _ _ _ _ hA ht (fun x hx => below_same hb (hlt x (by simpa using hx))) (fun x hx => by simpa using hlt x (by simpa using hx))
  · rw [hv, hfn.2.2]; rfl
end

theorem Src.ofRd {P : Program} {w : World} {size : Nat} {tx E : TypeId} {v : Value} {n : Nat} {xs : List Value} (hk : P.underlying tx = some (.slice E)) (h : Rd w size v n xs) (h1 : ∀ u ∈ xs, u.oneCell' = true) : Src P size tx v n xs w := by
  obtain ⟨hl, ⟨a, cap, rfl, rfl, h3⟩ | ⟨b, off, cap, rfl, h2, h3, h4, h5⟩⟩ := h
  · obtain rfl : xs = [] := List.eq_nil_of_length_eq_zero (by simpa using hl)
    cases a with
    | none => exact Src.ofNil w hk _
    | some a => exact Src.ofSlice w hk a 0 cap [] (by simp) (fun j u hj => by simp at hj) h1
  · exact Src.ofSlice w hk ⟨b, off, none⟩ n cap xs hl (fun j u hj => by
      rw [Addr.add_lit, h5 j (by rw [← hl]; exact (List.getElem?_eq_some_iff.1 hj).1)]; exact hj) h1

instance : Inhabited Node := ⟨⟨[], 0, []⟩⟩
theorem cellsStr : Tryz.prog.cellsOf 9 = 1 := by kernel_rfl
theorem cellsKind : Tryz.prog.cellsOf 47 = 1 := by kernel_rfl
theorem cellsNode : Tryz.prog.cellsOf 49 = 3 := by kernel_rfl
theorem bytesNode : Tryz.prog.bytesOf 49 = 40 := by kernel_rfl
section
variable {H : Type} {enc : TypeId × Value → H}
theorem weights_all {e : TypeId} {d : DataW H} {n : Nat} (hn : n ∈ d.weights Tryz.prog e) : ∀ l : List (DataW H), d ∈ l → n ∈ DataW.weightsAll Tryz.prog e l
  | [], h => by simp at h
  | x :: r, h => by
    simp only [DataW.weightsAll, List.mem_append]
    rcases List.mem_cons.1 h with rfl | h
    · exact .inl hn
    · exact .inr (weights_all hn r h)
set_option maxRecDepth 100000 in
/-- a node's three cells -/
theorem open_node {w : World} {base : Nat} {spare : Nat → Bool} {held : Bool} {fuel : Nat} {cs : List Value} {x : DataW H × List MemPlace} (h : DataW.trod enc Tryz.prog w base spare held fuel 49 cs = some x) :
    ∃ nd : Node, cs = [sv nd.path, .int .i64 nd.kind, sv nd.data] ∧ x.1 = .agg [.lit (.string nd.path), .lit (.int .i64 nd.kind), .lit (.string nd.data)] := by
  obtain ⟨xs, n, rfl, rfl, hl, hxl, hf⟩ := DataW.trod_struct Tryz.underlying49 h
  rw [cellsNode] at hl
  obtain ⟨c0, c1, c2, rfl⟩ : ∃ a b c, cs = [a, b, c] := by
    match cs, hl with
    | [a, b, c], _ => exact ⟨a, b, c, rfl⟩
  obtain ⟨y0, y1, y2, rfl⟩ : ∃ a b c, xs = [a, b, c] := by
    have hxl : xs.length = 3 := hxl
    match xs, hxl with
    | [a, b, c], _ => exact ⟨a, b, c, rfl⟩
  have h0 := hf 0 _ rfl
  have h1 := hf 1 _ rfl
  have h2 := hf 2 _ rfl
  obtain ⟨s, e0, z0, -⟩ := DataW.trod_string Tryz.underlying9 (show DataW.trod enc Tryz.prog w base spare held n 9 [c0] = some y0 from h0)
  obtain ⟨k, e1, z1, -⟩ := DataW.trod_int Tryz.underlying47 (show DataW.trod enc Tryz.prog w base spare held n 47 [c1] = some y1 from h1)
  obtain ⟨d, e2, z2, -⟩ := DataW.trod_string Tryz.underlying9 (show DataW.trod enc Tryz.prog w base spare held n 9 [c2] = some y2 from h2)
  cases e0; cases e1; cases e2
  subst z0 z1 z2
  exact ⟨⟨s.data.toList, k, d.data.toList⟩, rfl, rfl⟩
set_option maxRecDepth 100000 in
/-- an argument []api.Node -/
theorem open_nodes {W : World} {base : Nat} {v : Value} {d : DataW H} {p : List MemPlace} (hv : Value.okWide Tryz.prog W .any base 50 v) (h : DataW.Trod enc Tryz.prog W 0 (fun _ => true) true 50 v d p) (hz : ∀ n ∈ d.weights Tryz.prog 50, n ≤ reachBytes) :
    ∃ l : List Node, Rd W 3 v l.length (nodeCells l) ∧ NodesReach l ∧ l.length ≤ 140737488355328 := by
  obtain ⟨a0, len, cap, rfl⟩ := okWide_slice Tryz.underlying50 hv
  obtain ⟨fuel, hf⟩ := h
  have hr := reachBytes_lt
  rcases Deep.open_slice Tryz.underlying50 (show DataW.trod enc Tryz.prog W 0 (fun _ => true) true fuel 50 [.slice a0 len cap] = some (d, p) from hf) with ⟨h1, h2⟩ | ⟨a, len', cap', m, n, D, Pl, h1, hb, hl, hcm, hm, hx, hi⟩
  · cases h1
    exact ⟨[], ⟨rfl, .inl ⟨_, _, rfl, rfl, by simp [maxLen]⟩⟩, fun n hn => by simp at hn, by simp⟩
  · cases h1
    simp only [if_true] at hm
    subst hm
    have hx1 : d = .slice ((List.range len).map D) ((List.range (m - len)).map fun j => D (len + j)) := (Prod.mk.inj hx).1
    rw [cellsNode] at hi
    have hnode : ∀ i, i < len → ∃ nd : Node, W.cells? 0 (a.add (i * 3)) 3 = some [sv nd.path, .int .i64 nd.kind, sv nd.data] ∧ D i = .agg [.lit (.string nd.path), .lit (.int .i64 nd.kind), .lit (.string nd.data)] := by
      intro i hil
      obtain ⟨cs, hc, ht⟩ := hi i (by omega)
      obtain ⟨nd, rfl, hd⟩ := open_node ht
      exact ⟨nd, hc, hd⟩
    obtain ⟨F, hF⟩ := Deep.choose_lt hnode
    have hlen : ((List.range len).map F).length = len := by simp
    have hmem : ∀ i, i < len → ∀ n ∈ (D i).weights Tryz.prog 49, n ≤ reachBytes := by
      intro i hil n hn
      refine hz n ?_
      rw [hx1]
      simp only [DataW.weights, Tryz.underlying50, List.mem_cons, List.mem_append]
      exact .inr (.inl (weights_all hn _ (List.mem_map.2 ⟨i, List.mem_range.2 hil, rfl⟩)))
    refine ⟨(List.range len).map F, ?_, ?_, ?_⟩
    · rw [hlen]
      refine ⟨by rw [nodeCells_length, hlen], ?_⟩
      by_cases h0 : len = 0
      · subst h0
        exact .inl ⟨_, _, rfl, rfl, hcm⟩
      · right
        have hc0 : ∀ i, i < len → ∀ j, j < 3 → W.cell? ((a.add (i * 3)).add j) = [sv (F i).path, .int .i64 (F i).kind, sv (F i).data][j]? := fun i hil => (World.cells?_some (hF i hil).1).2.2
        have hsp : a.spot = none := by
          have := hc0 0 (by omega) 0 (by omega)
          simp only [Nat.zero_mul, Addr.add, if_true] at this
          exact World.cell?_spot this
        obtain ⟨b, off, sp⟩ := a
        simp only at hsp
        subst hsp
        have hbl : b < W.heap.size := by
          have := hc0 0 (by omega) 0 (by omega)
          simp only [Nat.zero_mul, Addr.add, if_true] at this
          rcases Nat.lt_or_ge b W.heap.size with h' | h'
          · exact h'
          · rw [World.cell?, Array.getElem?_eq_none h'] at this; cases this
        refine ⟨b, off, m, rfl, hl, hcm, hbl, fun j hj => ?_⟩
        have hq := hc0 (j / 3) (by omega) (j % 3) (by omega)
        rw [Addr.add_lit, Addr.add_lit, show off + j / 3 * 3 + j % 3 = off + j by omega] at hq
        rw [hq]
        have hat := nodeCells_at ((List.range len).map F) (j / 3) (by rw [hlen]; omega)
        simp only [List.getElem_map, List.getElem_range] at hat
        rcases (by omega : j % 3 = 0 ∨ j % 3 = 1 ∨ j % 3 = 2) with e | e | e
        · rw [e, show j = j / 3 * 3 by omega, show j / 3 * 3 / 3 = j / 3 by omega, hat.1]; rfl
        · rw [e, show j = j / 3 * 3 + 1 by omega, show (j / 3 * 3 + 1) / 3 = j / 3 by omega, hat.2.1]; rfl
        · rw [e, show j = j / 3 * 3 + 2 by omega, show (j / 3 * 3 + 2) / 3 = j / 3 by omega, hat.2.2]; rfl
    · intro nd hnd
      obtain ⟨i, hil, rfl⟩ := List.mem_map.1 hnd
      have hil := List.mem_range.1 hil
      have hw := hmem i hil
      rw [(hF i hil).2] at hw
      simp only [DataW.weights, Tryz.underlying49, DataW.weightsEach, List.map_cons, List.map_nil, List.mem_append] at hw
      have h1 := hw (F i).path.length (by simp)
      have h2 := hw (F i).data.length (by simp)
      omega
    · have := hz ((len + (m - len)) * 40) (by
        rw [hx1]
        simp only [DataW.weights, Tryz.underlying50, List.length_map, List.length_range, bytesNode]
        exact List.mem_cons_self ..)
      rw [hlen]
      omega
end
end Go.Proofs.YtdkogijdfgfpeaaGreatDoor
