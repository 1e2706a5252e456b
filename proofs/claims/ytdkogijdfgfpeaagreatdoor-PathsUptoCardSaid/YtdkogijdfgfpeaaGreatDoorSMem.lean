/- A store in memory: its map, its entries; made; entries compared. -/
import Derived.Test.YtdkogijdfgfpeaaGreatDoorChecked
import Derived.Test.YtdkogijdfgfpeaaGreatDoorStr
import Derived.Test.YtdkogijdfgfpeaaGreatDoorMap
import Derived.Deep.RegionHeld3
import Derived.Carry
namespace Go.Proofs.YtdkogijdfgfpeaaGreatDoor
open Go Go.RowKit
set_option linter.unusedVariables false

/-- a slice that is read stays where the cells of its block stay -/
theorem Rd.keepc {S : Nat → Prop} {w w' : World} {size : Nat} {v : Value} {n : Nat} {xs : List Value} (h : Rd w size v n xs) (k : Keeps S w w') (hs : ∀ b c T fr, v.ownBlock = some b → w.heap[b]? = some (.cells c T fr) → ¬ S b) : Rd w' size v n xs := by
  obtain ⟨h1, h2 | ⟨b', off, cap, rfl, h2, h3, h4, h5⟩⟩ := h
  · exact ⟨h1, .inl h2⟩
  · refine ⟨h1, .inr ⟨_, _, _, rfl, h2, h3, Nat.lt_of_lt_of_le h4 k.size, fun j hj => ?_⟩⟩
    have h6 := h5 j hj
    rw [← h6]
    have hx : xs[j]? ≠ none := by rw [List.getElem?_eq_getElem (by omega)]; simp
    rw [← h6] at hx
    have : ∃ c T fr, w.heap[b']? = some (.cells c T fr) := by
      simp only [World.cell?] at hx
      split at hx
      · rename_i c T fr hb
        exact ⟨_, _, _, hb⟩
      · exact absurd rfl hx
    obtain ⟨c, T, fr, hb⟩ := this
    simp only [World.cell?, k.block b' h4 (hs b' c T fr rfl hb)]
/-- where a slice's block stands -/
theorem Sl.own {w : World} {B : Nat} {E : TypeId} {size : Nat} {v : Value} {n : Nat} {xs : List Value} (h : Sl w B E size v n xs) (b : Nat) (hb : v.ownBlock = some b) : B ≤ b ∧ b < w.heap.size := by
  obtain ⟨h1, ⟨rfl, rfl⟩ | ⟨b', off, cap, c, rfl, hB, hb', h2, h3, h4, h5⟩⟩ := h
  · cases hb
  · cases hb
    exact ⟨hB, hb'.lt⟩
abbrev TE : TypeId := 80
abbrev TS : TypeId := 84
/-- an address -/
def pv (b : Nat) : Value := .pointer (some ⟨b, 0, none⟩)
/-- block p is the entry e; F: the store's own blocks -/
structure EntAt (w : World) (F : Nat → Prop) (p : Nat) (e : Ent) : Prop where
  own : F p
  blk : ∃ vt vr, Blk w p #[sv (packP e.tree), vt, vr] TE ∧ Rd w 3 vt e.tree.length (nodeCells e.tree) ∧ Rd w 1 vr e.refs.length (svs e.refs) ∧ (∀ b, vt.ownBlock = some b → F b) ∧ (∀ b, vr.ownBlock = some b → F b)
/-- what bounds an entry -/
structure EntFit (e : Ent) : Prop where
  nodes : NodesSmall e.tree
  pack : (packP e.tree).length ≤ 70368744177664
  refs : e.refs.length ≤ 1099511627776
  ref : ∀ r ∈ e.refs, r.length ≤ 1099511627776
/-- block s is a store that holds L -/
structure StoreAt (w : World) (F : Nat → Prop) (s : Nat) (L : Ents) : Prop where
  top : ∀ k, F k → tabTop ≤ k
  lt : ∀ k, F k → k < w.heap.size
  own : F s
  ok : StoreOk L
  fit : ∀ e ∈ L, EntFit e
  map : ∃ mb m, F mb ∧ Blk w s #[.map (some mb)] TS ∧ MapAt w mb m ∧ m.length = L.length ∧ (∀ x ∈ m, ∃ e ∈ L, e.path = x.1) ∧ ∀ e ∈ L, ∃ p, getM m e.path = some (pv p) ∧ EntAt w F p e
theorem EntAt.keeps {S F : Nat → Prop} {w w' : World} {p : Nat} {e : Ent} (h : EntAt w F p e) (k : Keeps S w w') (hs : ∀ b c T fr, F b → w.heap[b]? = some (.cells c T fr) → ¬ S b) : EntAt w' F p e := by
  obtain ⟨ho, vt, vr, h1, h2, h3, h4, h5⟩ := h
  exact ⟨ho, vt, vr, h1.keeps k (hs p _ _ _ ho h1), h2.keepc k (fun b c T fr hb hc => hs b c T fr (h4 b hb) hc), h3.keepc k (fun b c T fr hb hc => hs b c T fr (h5 b hb) hc), h4, h5⟩
theorem EntAt.wide {F F' : Nat → Prop} {w : World} {p : Nat} {e : Ent} (h : EntAt w F p e) (hf : ∀ k, F k → F' k) : EntAt w F' p e := by
  obtain ⟨ho, vt, vr, h1, h2, h3, h4, h5⟩ := h
  exact ⟨hf _ ho, vt, vr, h1, h2, h3, fun b hb => hf _ (h4 b hb), fun b hb => hf _ (h5 b hb)⟩
theorem StoreAt.keeps {S F : Nat → Prop} {w w' : World} {s : Nat} {L : Ents} (h : StoreAt w F s L) (k : Keeps S w w') (hs : ∀ b, F b → ¬ S b) : StoreAt w' F s L := by
  obtain ⟨mb, m, h1, h2, h3, h4, h5, h6⟩ := h.map
  exact ⟨h.top, fun b hb => Nat.lt_of_lt_of_le (h.lt b hb) k.size, h.own, h.ok, h.fit, mb, m, h1, h2.keeps k (hs s h.own), h3.keeps k (hs mb h1), h4, h5, fun e he => by
    obtain ⟨p, hp, he2⟩ := h6 e he
    exact ⟨p, hp, he2.keeps k fun b _ _ _ hb _ => hs b hb⟩⟩
theorem StoreAt.non {F : Nat → Prop} {w w' : World} {s : Nat} {L : Ents} (h : StoreAt w F s L) (k : Keeps Non w w') : StoreAt w' F s L := h.keeps k fun _ _ h => h
/-- what the map says of a path -/
theorem StoreAt.look {F : Nat → Prop} {w : World} {mb : Nat} {L : Ents} {m : MapL} (hm : MapAt w mb m) (h5 : ∀ x ∈ m, ∃ e ∈ L, e.path = x.1) (h6 : ∀ e ∈ L, ∃ p, getM m e.path = some (pv p) ∧ EntAt w F p e) (k : List UInt8) :
    (findE L k = none ∧ getM m k = none) ∨ ∃ e p, findE L k = some e ∧ e ∈ L ∧ e.path = k ∧ getM m k = some (pv p) ∧ EntAt w F p e := by
  cases hf : findE L k with
  | none =>
    left
    refine ⟨rfl, getM_none.2 fun x hx e2 => ?_⟩
    obtain ⟨e, he, hex⟩ := h5 x hx
    exact findE_none.1 hf e he (hex.trans e2)
  | some e =>
    right
    obtain ⟨he, rfl⟩ := findE_some hf
    obtain ⟨p, hp, hE⟩ := h6 e he
    exact ⟨e, p, rfl, he, rfl, hp, hE⟩
set_option maxHeartbeats 800000 in
set_option maxRecDepth 100000 in
theorem new_any (w : World) (hT : tabTop ≤ w.heap.size) :
    Calls Tryz.prog 44 #[] w fun e w' => ∃ s, e = .returned (pv s) ∧ w.heap.size ≤ s ∧ StoreAt w' (fun k => w.heap.size ≤ k ∧ k < w'.heap.size) s [] ∧ Keeps Non w w' := by
  have hmm := @run_makeMap Tryz.prog
  go_enter Tryz.func44, Tryz.ntmps44
  go_wp2_with fail
  go_ret
  have h1 := MapAt.made w
  have h2 := Blk.new (w.alloc (.map #[] 0)) #[.map (some w.heap.size)] TS
  have hkp : Keeps Non w ((w.alloc (.map #[] 0)).alloc (.cells #[.map (some w.heap.size)] TS)) := ((Keeps.refl _ _).alloc _).alloc _
  refine ⟨w.heap.size + 1, by simp [pv], by omega, ⟨fun k hk => by omega, fun k hk => hk.2, ⟨by omega, by simp⟩, ⟨by simp, by simp, by simp, by simp⟩, by simp, w.heap.size, [], ⟨Nat.le_refl _, by simp; omega⟩, by simpa using h2, ?_, rfl, by simp, by simp⟩, hkp⟩
  exact h1.keeps ((Keeps.refl Non _).alloc _) (fun h => h)
set_option maxHeartbeats 800000 in
set_option maxRecDepth 100000 in
/-- are two entries the same -/
theorem sameE_any {F F' : Nat → Prop} {p q : Nat} {a b : Ent} (w : World) (ha : EntAt w F p a) (hb : EntAt w F' q b) :
    Calls Tryz.prog 59 #[pv p, pv q] w fun e w' => e = .returned (.bool (sameE a b)) ∧ ∃ n, w' = w.drewN n := by
  obtain ⟨-, vt, vr, h1, h2, h3, h4, h5⟩ := ha
  obtain ⟨-, ut, ur, g1, g2, g3, g4, g5⟩ := hb
  have c0 := h1.cell 0
  have c2 := h1.cell 2
  have d0 := g1.cell 0
  have d2 := g1.cell 2
  simp only [List.getElem?_toArray, List.getElem?_cons_zero, List.getElem?_cons_succ] at c0 c2 d0 d2
  have HEQ : Hid (∀ n, Calls Tryz.prog 95 #[vr, ur] (w.drewN n) fun e w' => e = .returned (.bool (a.refs == b.refs)) ∧ ∃ m, w' = w.drewN m) := fun n =>
    (eqs_any _ _ _ _ _ (h3.non ((Keeps.refl _ _).drewN n)) (g3.non ((Keeps.refl _ _).drewN n))).mono fun e w' h => ⟨h.1, by
      obtain ⟨m, hm⟩ := h.2
      rw [hm]
      exact drewN_more ⟨n, rfl⟩ m⟩
  clear h1 h2 h3 h4 h5 g1 g2 g3 g4 g5
  unfold sv at c0 d0
  unfold sameE pv
  generalize packP a.tree = x at *
  generalize packP b.tree = y at *
  by_cases he : x = y
  · have hb : (x == y) = true := by rw [he]; exact beq_self_eq_true _
    clear he
    go_enter Tryz.func59, Tryz.ntmps59
    go_upto_region 1 with (fail)
    go_quiet (first | (go_at_call 95; exact (HEQ.out _)))
    go_wp2_with fail
    go_ret
    refine ⟨bool_ret ?_, _, rfl⟩
    rw [hb, Bool.true_and]
  · have hb : (x == y) = false := by rw [beq_eq_false_iff_ne]; exact he
    clear he
    go_enter Tryz.func59, Tryz.ntmps59
    go_upto_region 1 with (fail)
    go_quiet (fail)
    go_wp2_with fail
    go_ret
    refine ⟨bool_ret ?_, _, rfl⟩
    rw [hb, Bool.false_and]
end Go.Proofs.YtdkogijdfgfpeaaGreatDoor
