/- The document's store in memory. -/
import Derived.Test.YtdkogijdfgfpeaaGreatDoorChecked
import Derived.Test.YtdkogijdfgfpeaaGreatDoorStr
import Derived.Test.YtdkogijdfgfpeaaGreatDoorSMem
namespace Go.Proofs.YtdkogijdfgfpeaaGreatDoor
open Go Go.RowKit
set_option linter.unusedVariables false

abbrev TQ : TypeId := 130
abbrev TQE : TypeId := 165
/-- an entry's three cells; G: the store's own blocks -/
structure QEnt (w : World) (G : Nat → Prop) (e : Ent) (x : Value × Value × Value) : Prop where
  path : x.1 = sv e.path
  tree : Rd w 3 x.2.1 e.tree.length (nodeCells e.tree)
  refs : Rd w 1 x.2.2 e.refs.length (svs e.refs)
  own1 : ∀ b, x.2.1.ownBlock = some b → G b
  own2 : ∀ b, x.2.2.ownBlock = some b → G b
/-- entries in a slice that is read -/
structure QList (w : World) (G : Nat → Prop) (L : Ents) (v : Value) (T : List (Value × Value × Value)) : Prop where
  sl : Sl w 0 TQE 3 v T.length (trip T)
  own : ∀ b, v.ownBlock = some b → G b
  len : T.length = L.length
  ents : ∀ (i : Nat) (e : Ent) (x : Value × Value × Value), L[i]? = some e → T[i]? = some x → QEnt w G e x
theorem QList.rd {w : World} {G : Nat → Prop} {L : Ents} {v : Value} {T : List (Value × Value × Value)} (h : QList w G L v T) : Rd w 3 v T.length (trip T) := h.sl.rd
/-- block r is the document's store that holds L -/
structure QAt (w : World) (G : Nat → Prop) (r : Nat) (L : Ents) : Prop where
  lt : ∀ k, G k → k < w.heap.size
  own : G r
  mem : ∃ v T, Blk w r #[v] TQ ∧ QList w (fun k => G k ∧ k ≠ r) L v T
theorem QEnt.keeps {S G : Nat → Prop} {w w' : World} {e : Ent} {x : Value × Value × Value} (h : QEnt w G e x) (k : Keeps S w w') (hs : ∀ b, G b → ¬ S b) : QEnt w' G e x :=
  ⟨h.path, h.tree.keeps k fun b hb => hs b (h.own1 b hb), h.refs.keeps k fun b hb => hs b (h.own2 b hb), h.own1, h.own2⟩
theorem QEnt.wide {G G' : Nat → Prop} {w : World} {e : Ent} {x : Value × Value × Value} (h : QEnt w G e x) (hg : ∀ b, G b → G' b) : QEnt w G' e x := ⟨h.path, h.tree, h.refs, fun b hb => hg b (h.own1 b hb), fun b hb => hg b (h.own2 b hb)⟩
theorem QList.keeps {S G : Nat → Prop} {w w' : World} {L : Ents} {v : Value} {T : List (Value × Value × Value)} (h : QList w G L v T) (k : Keeps S w w') (hs : ∀ b, G b → ¬ S b) : QList w' G L v T :=
  ⟨h.sl.keep fun b c hb _ hbk => hbk.keeps k (hs b (h.own b hb)), h.own, h.len, fun i e x he hx => (h.ents i e x he hx).keeps k hs⟩
theorem QAt.keeps {S G : Nat → Prop} {w w' : World} {r : Nat} {L : Ents} (h : QAt w G r L) (k : Keeps S w w') (hs : ∀ b, G b → ¬ S b) : QAt w' G r L := by
  obtain ⟨v, T, h1, h2⟩ := h.mem
  exact ⟨fun b hb => Nat.lt_of_lt_of_le (h.lt b hb) k.size, h.own, v, T, h1.keeps k (hs r h.own), h2.keeps k fun b hb => hs b hb.1⟩
theorem QAt.non {G : Nat → Prop} {w w' : World} {r : Nat} {L : Ents} (h : QAt w G r L) (k : Keeps Non w w') : QAt w' G r L := h.keeps k fun _ _ h => h
theorem QList.non {G : Nat → Prop} {w w' : World} {L : Ents} {v : Value} {T : List (Value × Value × Value)} (h : QList w G L v T) (k : Keeps Non w w') : QList w' G L v T := h.keeps k fun _ _ h => h
/-- the place of a path in a store, and its entry -/
theorem idxL_find (L : Ents) (k : List UInt8) : (findE L k = none ∧ idxL (L.map Ent.path) k = -1) ∨ ∃ (i : Nat) (e : Ent), L[i]? = some e ∧ e ∈ L ∧ e.path = k ∧ idxL (L.map Ent.path) k = (i : Int) ∧ i < L.length ∧ (findE L k).isSome = true := by
  by_cases h : k ∈ L.map Ent.path
  · right
    obtain ⟨i, h1, h2, h3⟩ := idxL_at h
    rw [List.length_map] at h2
    obtain ⟨e, he⟩ : ∃ e, L[i]? = some e := ⟨_, List.getElem?_eq_getElem h2⟩
    rw [List.getElem?_map, he] at h3
    simp only [Option.map_some, Option.some.injEq] at h3
    exact ⟨i, e, he, List.mem_of_getElem? he, h3, h1, h2, findE_isSome.2 ⟨e, List.mem_of_getElem? he, h3⟩⟩
  · left
    refine ⟨findE_none.2 fun e he hep => h (List.mem_map.2 ⟨e, he, hep⟩), idxL_none h⟩
theorem QList.at {G : Nat → Prop} {w : World} {L : Ents} {v : Value} {T : List (Value × Value × Value)} (h : QList w G L v T) (name : ByteArray) :
    Calls Tryz.prog 98 #[v, .string name] w fun e w' => e = .returned (.int .i64 (idxL (L.map Ent.path) name.data.toList)) ∧ Keeps Non w w' :=
  rat_any (L.map Ent.path) T v name w (by rw [List.length_map, h.len]) (fun i x hx => by
    obtain ⟨hi, -⟩ := List.getElem?_eq_some_iff.1 hx
    have hil : i < L.length := by rw [← h.len]; exact hi
    have hE := h.ents i _ x (List.getElem?_eq_getElem hil) hx
    obtain ⟨a1, c1, e1, -, -⟩ := hE.tree.shape
    obtain ⟨a2, c2, e2, -, -⟩ := hE.refs.shape
    exact ⟨⟨L[i].path, by rw [List.getElem?_map, List.getElem?_eq_getElem hil]; rfl, hE.path⟩, ⟨_, _, _, e1⟩, _, _, _, e2⟩) h.rd
theorem letter_yes {c : UInt8} (h : (97 ≤ c.toNat ∧ c.toNat ≤ 122) ∨ (48 ≤ c.toNat ∧ c.toNat ≤ 57) ∨ c.toNat = 45) : letterP c = true := by
  unfold letterP
  simp only [Bool.or_eq_true, Bool.and_eq_true, decide_eq_true_eq, beq_iff_eq]
  rcases h with h | h | h
  · exact .inl (.inl h)
  · exact .inl (.inr h)
  · exact .inr (UInt8.toNat_inj.1 h)
theorem letter_no {c : UInt8} (h : ¬ ((97 ≤ c.toNat ∧ c.toNat ≤ 122) ∨ (48 ≤ c.toNat ∧ c.toNat ≤ 57) ∨ c.toNat = 45)) : letterP c = false := by
  cases hl : letterP c with
  | false => rfl
  | true =>
    exfalso
    unfold letterP at hl
    simp only [Bool.or_eq_true, Bool.and_eq_true, decide_eq_true_eq, beq_iff_eq] at hl
    refine h ?_
    rcases hl with (hl | hl) | hl
    · exact .inl hl
    · exact .inr (.inl hl)
    · exact .inr (.inr (by rw [hl]; rfl))
theorem path_no {l : List UInt8} {k : Nat} {c : UInt8} (hx : l[k]? = some c) (hc : letterP c = false) : pathB l = false := by
  have : l.all letterP = false := by
    rw [List.all_eq_false]
    exact ⟨c, List.mem_of_getElem? hx, by simp [hc]⟩
  unfold pathB
  rw [this]
  rfl
set_option maxHeartbeats 1600000 in
set_option maxRecDepth 100000 in
/-- is a text a path -/
theorem rpath_any (s : ByteArray) (w : World) (hs : s.size ≤ 1099511627776) :
    Calls Tryz.prog 96 #[.string s] w fun e w' => e = .returned (.bool (pathB s.data.toList)) ∧ w = w' := by
  go_enter Tryz.func96, Tryz.ntmps96
  go_wp2_with fail
  go_loopg [3] s.size (fun gk iv wr => ∃ k : Nat, gk = s.size - k ∧ k ≤ s.size ∧ iv = .int .i64 k ∧ w = wr ∧ Hid ((s.data.toList.take k).all letterP = true))
  case atStart => exact ⟨0, rfl, Nat.zero_le _, rfl, rfl, by show _ = _; simp⟩
  case round =>
    obtain ⟨k, rfl, hk, rfl, rfl, HA⟩ := hrel
    by_cases hlt : k < s.size
    · have HX : Hid (s.data.toList[k]? = some s[k]) := by
        show _ = _
        rw [List.getElem?_eq_getElem (by rw [dlen]; exact hlt)]
        rfl
      obtain ⟨m, hq⟩ : ∃ m, s[k].toNat = m := ⟨_, rfl⟩
      have q0 := hq
      by_cases a1 : 97 ≤ m
      · by_cases a2 : m ≤ 122
        · have g1 : decide ((97 : Int) ≤ (m : Int)) = true := decide_eq_true (by omega)
          have g2 : decide ((m : Int) ≤ 122) = true := decide_eq_true (by omega)
          have HP : Hid (letterP s[k] = true) := letter_yes (by omega)
          clear hq
          go_wp2_with fail
          go_roundg (s.size - (k + 1))
          case measure => omega
          case rel =>
            refine ⟨k + 1, rfl, by omega, by go_num, rfl, ?_⟩
            show _ = _
            rw [List.take_add_one, HX.out, List.all_append, HA.out]
            simp [HP.out]
        · have g1 : decide ((97 : Int) ≤ (m : Int)) = true := decide_eq_true (by omega)
          have g2 : decide ((m : Int) ≤ 122) = false := decide_eq_false (by omega)
          have g3 : decide ((48 : Int) ≤ (m : Int)) = true := decide_eq_true (by omega)
          have g4 : decide ((m : Int) ≤ 57) = false := decide_eq_false (by omega)
          have g5 : ((m : Int) == 45) = false := by rw [beq_eq_false_iff_ne]; omega
          have HP : Hid (letterP s[k] = false) := letter_no (by omega)
          clear hq
          go_wp2_with fail
          go_ret
          exact ⟨bool_ret (path_no HX.out HP.out).symm, rfl⟩
      · by_cases b1 : 48 ≤ m
        · by_cases b2 : m ≤ 57
          · have g1 : decide ((97 : Int) ≤ (m : Int)) = false := decide_eq_false (by omega)
            have g3 : decide ((48 : Int) ≤ (m : Int)) = true := decide_eq_true (by omega)
            have g4 : decide ((m : Int) ≤ 57) = true := decide_eq_true (by omega)
            have HP : Hid (letterP s[k] = true) := letter_yes (by omega)
            clear hq
            go_wp2_with fail
            go_roundg (s.size - (k + 1))
            case measure => omega
            case rel =>
              refine ⟨k + 1, rfl, by omega, by go_num, rfl, ?_⟩
              show _ = _
              rw [List.take_add_one, HX.out, List.all_append, HA.out]
              simp [HP.out]
          · have g1 : decide ((97 : Int) ≤ (m : Int)) = false := decide_eq_false (by omega)
            have g3 : decide ((48 : Int) ≤ (m : Int)) = true := decide_eq_true (by omega)
            have g4 : decide ((m : Int) ≤ 57) = false := decide_eq_false (by omega)
            have g5 : ((m : Int) == 45) = false := by rw [beq_eq_false_iff_ne]; omega
            have HP : Hid (letterP s[k] = false) := letter_no (by omega)
            clear hq
            go_wp2_with fail
            go_ret
            exact ⟨bool_ret (path_no HX.out HP.out).symm, rfl⟩
        · by_cases c1 : m = 45
          · have g1 : decide ((97 : Int) ≤ (m : Int)) = false := decide_eq_false (by omega)
            have g3 : decide ((48 : Int) ≤ (m : Int)) = false := decide_eq_false (by omega)
            have g5 : ((m : Int) == 45) = true := by rw [beq_iff_eq]; omega
            have HP : Hid (letterP s[k] = true) := letter_yes (by omega)
            clear hq
            go_wp2_with fail
            go_roundg (s.size - (k + 1))
            case measure => omega
            case rel =>
              refine ⟨k + 1, rfl, by omega, by go_num, rfl, ?_⟩
              show _ = _
              rw [List.take_add_one, HX.out, List.all_append, HA.out]
              simp [HP.out]
          · have g1 : decide ((97 : Int) ≤ (m : Int)) = false := decide_eq_false (by omega)
            have g3 : decide ((48 : Int) ≤ (m : Int)) = false := decide_eq_false (by omega)
            have g5 : ((m : Int) == 45) = false := by rw [beq_eq_false_iff_ne]; omega
            have HP : Hid (letterP s[k] = false) := letter_no (by omega)
            clear hq
            go_wp2_with fail
            go_ret
            exact ⟨bool_ret (path_no HX.out HP.out).symm, rfl⟩
    · have hk2 : s.size = k := by omega
      subst hk2
      have HALL : Hid (s.data.toList.all letterP = true) := by
        have h1 := HA.out
        rw [List.take_of_length_le (by rw [dlen]; exact Nat.le_refl _)] at h1
        exact h1
      clear HA
      have HPB : Hid (pathB s.data.toList = (decide (1 ≤ s.size) && decide (s.size ≤ 12))) := by
        show _ = _
        unfold pathB
        rw [HALL.out, dlen]
        have : (!s.data.toList.isEmpty) = decide (1 ≤ s.size) := by
          rw [← dlen]
          cases s.data.toList <;> simp
        rw [this]
        simp
      by_cases h1 : 1 ≤ s.size
      · have g1 : decide ((1 : Int) ≤ (s.size : Int)) = true := decide_eq_true (by omega)
        by_cases h12 : s.size ≤ 12
        · have g2 : decide ((s.size : Int) ≤ 12) = true := decide_eq_true (by omega)
          have HZ : Hid (pathB s.data.toList = true) := by show _ = _; rw [HPB.out, decide_eq_true h1, decide_eq_true h12]; rfl
          go_wp2_with fail
          go_ret
          exact ⟨bool_ret HZ.out.symm, rfl⟩
        · have g2 : decide ((s.size : Int) ≤ 12) = false := decide_eq_false (by omega)
          have HZ : Hid (pathB s.data.toList = false) := by show _ = _; rw [HPB.out, decide_eq_false h12, Bool.and_false]
          go_wp2_with fail
          go_ret
          exact ⟨bool_ret HZ.out.symm, rfl⟩
      · have g1 : decide ((1 : Int) ≤ (s.size : Int)) = false := decide_eq_false (by omega)
        have HZ : Hid (pathB s.data.toList = false) := by show _ = _; rw [HPB.out, decide_eq_false h1, Bool.false_and]
        go_wp2_with fail
        go_ret
        exact ⟨bool_ret HZ.out.symm, rfl⟩
end Go.Proofs.YtdkogijdfgfpeaaGreatDoor
