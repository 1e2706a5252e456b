/- (*Store).Paths. -/
import Derived.Test.YtdkogijdfgfpeaaGreatDoorChecked
import Derived.Test.YtdkogijdfgfpeaaGreatDoorInsert
import Derived.Test.YtdkogijdfgfpeaaGreatDoorKeys
namespace Go.Proofs.YtdkogijdfgfpeaaGreatDoor
open Go Go.RowKit Go.MapKept Go.ChangeShapes Go.WideShapes Go.ChangeMaps Go.Maps Go.Proofs
set_option linter.unusedVariables false

/-- how an entry's value reads, for the shelf's words: as nothing -/
def blindR (v : Value) : Option (DataW Unit × List MemPlace) := some (.nil, [])
theorem ownsMap_of {P : Program} {w : World} {kt : TypeId} (hk : P.underlying kt = some .string) {b : Nat} {m : MapL} (h : MapAt w b m) (hl : m.length ≤ 1099511627776) :
    ∃ D0 : DataW Unit, w.ownsMap P kt blindR b m.length D0 ∧ (strKeys D0).Perm (m.map Prod.fst) ∧ Maps.size D0 = m.length := by
  obtain ⟨es, clock, hb, hm⟩ := h
  have hml : m.length = es.toList.length := by
    have := congrArg List.length hm.ents
    simpa using this.symm
  have hkeys : ∀ e ∈ es.toList, ∃ x ∈ m, e.key = sv x.1 := fun e he => by
    obtain ⟨x, hx, hxk, -⟩ := hm.key he
    exact ⟨x, hx, hxk⟩
  have hrg : ∀ e ∈ es.toList, ∀ x ∈ m, e.key = sv x.1 → Go.WideElems.rd P kt blindR e = some (.string x.1, .nil) := fun e he x hx hex => by
    have hsz : (⟨x.1.toArray⟩ : ByteArray).size ≤ maxLen := by have := hm.small x hx; show x.1.toArray.size ≤ _; simp [maxLen]; omega
    unfold Go.WideElems.rd
    rw [hex]
    have : keyOf P kt (sv x.1) = some (.string x.1) := by
      have h1 := WideMaps.keyOf_string_mk hk hsz
      simpa [sv] using h1
    rw [this]
    rfl
  have hfit : Go.WideElems.Fit P kt blindR es clock := by
    refine ⟨by simp [maxLen]; simp at hml; omega, ⟨hm.old, hm.born, ?_⟩, fun e he => ?_⟩
    · have h1 : es.toList.map (·.key) = (m.map Prod.fst).map sv := by
        have := congrArg (List.map Prod.fst) hm.ents
        rw [List.map_map, List.map_map] at this
        rw [List.map_map]
        exact this
      rw [h1]
      exact List.Pairwise.map sv (fun a b h e => h (svj e)) hm.keys
    · obtain ⟨x, hx, hex⟩ := hkeys e he
      exact ⟨_, hrg e he x hx hex⟩
  refine ⟨_, ⟨es, clock, hb, hfit, by rw [hml]; exact Nat.le_of_eq (by simp), rfl⟩, ?_, ?_⟩
  · have h1 := (sorted_perm (es.toList.map (Go.WideElems.rg P kt blindR))).map fun p => strOf p.1
    refine List.Perm.trans h1 (List.Perm.of_eq ?_)
    have h2 : es.toList.map (·.key) = (m.map Prod.fst).map sv := by
      have := congrArg (List.map Prod.fst) hm.ents
      rw [List.map_map, List.map_map] at this
      rw [List.map_map]
      exact this
    rw [List.map_map]
    have h3 : (es.toList.map ((fun p => strOf p.1) ∘ Go.WideElems.rg P kt blindR)).map sv = (m.map Prod.fst).map sv := by
      rw [← h2, List.map_map]
      refine List.map_congr_left fun e he => ?_
      obtain ⟨x, hx, hex⟩ := hkeys e he
      simp only [Function.comp]
      rw [Go.WideElems.rg_of (hrg e he x hx hex), hex]
      rfl
    exact (List.map_inj_right fun a b e => svj e).1 h3
  · rw [Maps.size_eq, (sorted_perm _).length_eq, List.length_map, hml]
theorem ownsRow_sl {w : World} {B : Nat} {E : TypeId} {size : Nat} {v : Value} {n : Nat} {xs : List Value} (h : w.ownsRow B E size v n xs) : Sl w B E size v n xs := by
  obtain ⟨h1, h2 | ⟨g, cap, cur, h2, h3, h4, h5, h6, h7, h8⟩⟩ := h
  · exact ⟨h1, .inl h2⟩
  · refine ⟨h1, .inr ⟨g, 0, cap, cur, h2, h3, h4, h5, h6, by omega, fun j hj => ?_⟩⟩
    rw [Nat.zero_add, ← h8, List.getElem?_take, if_pos hj, Array.getElem?_toList]
theorem sort_rising {l : List (List UInt8)} (h : l.Pairwise fun a b => Op.bytesLess a b = true) : l.mergeSort _root_.Go.leB = l := by
  refine List.mergeSort_of_pairwise (h.imp fun {a b} hab => ?_)
  rw [bytesLess_lt, decide_eq_true_eq] at hab
  simp only [_root_.Go.leB, decide_eq_true_eq]
  exact List.le_of_lt hab
set_option maxHeartbeats 1600000 in
set_option maxRecDepth 100000 in
theorem paths_any {F : Nat → Prop} {s : Nat} {L : Ents} (w : World) (h : StoreAt w F s L) :
    Calls Tryz.prog 22 #[pv s] w fun e w' => ∃ v, e = .returned v ∧ Sl w' w.heap.size 9 1 v L.length (svs (L.map Ent.path)) ∧ Keeps Non w w' := by
  obtain ⟨mb, m, g1, g2, g3, g4, g5, g6⟩ := h.map
  have hten := h.ok.ten
  obtain ⟨D0, hown, hperm, hsize⟩ := ownsMap_of (P := Tryz.prog) (kt := 9) Tryz.underlying9 g3 (by omega)
  have hkp : (m.map Prod.fst).Perm (L.map Ent.path) := by
    refine (List.perm_ext_iff_of_nodup g3.nodup ?_).2 fun x => ?_
    · exact (List.pairwise_map.2 (h.ok.rise.imp fun {a b} hab e => by rw [e, bytesLess_irrefl] at hab; cases hab))
    · constructor
      · intro hx
        obtain ⟨y, hy, rfl⟩ := List.mem_map.1 hx
        obtain ⟨e, he, hep⟩ := g5 y hy
        exact List.mem_map.2 ⟨e, he, hep⟩
      · intro hx
        obtain ⟨e, he, rfl⟩ := List.mem_map.1 hx
        obtain ⟨p, hp, -⟩ := g6 e he
        exact List.mem_map.2 ⟨_, (getM_mem g3.nodup).1 hp, rfl⟩
  have cs := g2.cell 0
  simp only [List.getElem?_toArray, List.getElem?_cons_zero] at cs
  have hmax : Maps.size D0 ≤ maxLen := by rw [hsize]; simp [maxLen]; omega
  have hbytes : Maps.size D0 * 16 ≤ 140737488355328 := by rw [hsize]; omega
  have hsort : (L.map Ent.path).mergeSort _root_.Go.leB = L.map Ent.path := sort_rising (List.pairwise_map.2 h.ok.rise)
  unfold pv
  refine (callsIn_wide (n := 6)).1 ?_
  have hfK : Fence.wide.fn 52 := trivial
  have hfS : Fence.wide.fn 51 := trivial
  refine callsIn_of_wp Tryz.func22 rfl trivial ?_ rfl
  simp only [Tryz.ntmps22, List.size_toArray, List.length_cons, List.length_nil, Nat.reduceAdd, Nat.reduceSub, Array.replicate_succ, Array.replicate_zero, List.push_toArray, List.append_toArray, List.nil_append, List.cons_append]
  gi_wp2_with (first
    | (gi_at_call 52; refine (Tryz.maps_Keys_52 _ _).mono ?_; rintro e w' ⟨rfl, rfl⟩)
    | (gi_at_call 51; refine (Tryz.slices_Sorted_keys_51_52 mb m.length D0 blindR w hown hmax hbytes).mono ?_; rintro e w' ⟨v, ss, rfl, hS, hrow, hnil, hb⟩))
  go_ret
  have hss : ss.mergeSort _root_.Go.leB = L.map Ent.path := by
    rw [mergeSort_of_perm (hS.trans (hperm.trans hkp)), hsort]
  have hlen : ss.length = L.length := by
    have := (hS.trans (hperm.trans hkp)).length_eq
    simpa using this
  have hsl := ownsRow_sl hrow
  rw [hlen] at hsl
  have hxs : (ss.mergeSort fun x y => decide (x ≤ y)).map encStr = svs (L.map Ent.path) := by
    have : (ss.mergeSort fun x y => decide (x ≤ y)) = L.map Ent.path := hss
    rw [this]
    rfl
  rw [hxs] at hsl
  refine ⟨v, rfl, hsl.mono (by simp), ?_⟩
  have hk1 : Keeps Non w (w.alloc (.cells #[.map (some mb)] 82)) := (Keeps.refl _ _).alloc _
  exact hk1.trans (Keeps.of_below (S := Non) hb fun k hk _ => hk) fun _ h => h.elim
end Go.Proofs.YtdkogijdfgfpeaaGreatDoor
