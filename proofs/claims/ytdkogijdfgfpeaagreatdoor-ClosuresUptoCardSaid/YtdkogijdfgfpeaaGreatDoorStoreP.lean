/- Plain: a store as a list of entries by rising paths; what each call does. -/
import Derived.Test.YtdkogijdfgfpeaaGreatDoorChecked
import Derived.Test.YtdkogijdfgfpeaaGreatDoorPackw
import Derived.Test.YtdkogijdfgfpeaaGreatDoorPath
namespace Go.Proofs.YtdkogijdfgfpeaaGreatDoor
open Go Go.RowKit
set_option linter.unusedVariables false

/-- an entry -/
structure Ent where
  path : List UInt8
  tree : List Node
  refs : List (List UInt8)
abbrev Ents := List Ent
def findE (L : Ents) (k : List UInt8) : Option Ent := L.find? fun e => e.path == k
/-- do texts rise -/
def risingB : List (List UInt8) → Bool
  | a :: b :: r => Op.bytesLess a b && risingB (b :: r)
  | _ => true
/-- a list with one more, by its path -/
def putE (L : Ents) (e : Ent) : Ents := L.takeWhile (fun x => Op.bytesLess x.path e.path) ++ e :: L.dropWhile (fun x => Op.bytesLess x.path e.path)
def sameE (a b : Ent) : Bool := packP a.tree == packP b.tree && a.refs == b.refs
/-- an entry more: what is told, and the store -/
def insE (L : Ents) (name : List UInt8) (l : List Node) (refs : List (List UInt8)) : Int × Ents :=
  if pathB name = false then (11, L)
  else if 0 ≤ wrongL l then (1, L)
  else if risingB refs = false then (7, L)
  else if refs.any (fun r => r != name && (findE L r).isNone) = true then (13, L)
  else match findE L name with
    | some e => if sameE e ⟨name, l, refs⟩ then (0, L) else (12, L)
    | none => if L.length = 10 then (14, L) else (0, putE L ⟨name, l, refs⟩)
/-- what a store keeps -/
structure StoreOk (L : Ents) : Prop where
  rise : L.Pairwise fun a b => Op.bytesLess a.path b.path = true
  ten : L.length ≤ 10
  good : ∀ e ∈ L, pathB e.path = true ∧ wrongL e.tree = -1 ∧ risingB e.refs = true
  has : ∀ e ∈ L, ∀ r ∈ e.refs, (findE L r).isSome = true
theorem bytesLess_trans {a b c : List UInt8} (h1 : Op.bytesLess a b = true) (h2 : Op.bytesLess b c = true) : Op.bytesLess a c = true := by
  rw [bytesLess_lt, decide_eq_true_eq] at *
  exact List.lt_trans h1 h2
theorem bytesLess_irrefl (a : List UInt8) : Op.bytesLess a a = false := by
  rw [bytesLess_lt, decide_eq_false_iff_not]
  exact List.lt_irrefl a
theorem bytesLess_total {a b : List UInt8} (h1 : Op.bytesLess a b = false) (h2 : a ≠ b) : Op.bytesLess b a = true := by
  have h := leS_not b a
  rw [h1, leS] at h
  simp only [Bool.not_false, Bool.or_eq_true, beq_iff_eq] at h
  exact h.resolve_right fun e => h2 e.symm
theorem findE_some {L : Ents} {k : List UInt8} {e : Ent} (h : findE L k = some e) : e ∈ L ∧ e.path = k := by
  unfold findE at h
  exact ⟨List.mem_of_find?_eq_some h, by simpa using List.find?_some h⟩
theorem findE_none {L : Ents} {k : List UInt8} : findE L k = none ↔ ∀ e ∈ L, e.path ≠ k := by
  unfold findE
  rw [List.find?_eq_none]
  simp
theorem findE_isSome {L : Ents} {k : List UInt8} : (findE L k).isSome = true ↔ ∃ e ∈ L, e.path = k := by
  unfold findE
  rw [List.find?_isSome]
  simp
theorem putE_mem {L : Ents} {e x : Ent} : x ∈ putE L e ↔ x = e ∨ x ∈ L := by
  unfold putE
  rw [List.mem_append, List.mem_cons]
  have h := List.takeWhile_append_dropWhile (p := fun x : Ent => Op.bytesLess x.path e.path) (l := L)
  constructor
  · rintro (h1 | h1 | h1)
    · exact .inr (by rw [← h]; exact List.mem_append.2 (.inl h1))
    · exact .inl h1
    · exact .inr (by rw [← h]; exact List.mem_append.2 (.inr h1))
  · rintro (h1 | h1)
    · exact .inr (.inl h1)
    · rw [← h] at h1
      rcases List.mem_append.1 h1 with h1 | h1
      · exact .inl h1
      · exact .inr (.inr h1)
theorem putE_length (L : Ents) (e : Ent) : (putE L e).length = L.length + 1 := by
  unfold putE
  have h := congrArg List.length (List.takeWhile_append_dropWhile (p := fun x : Ent => Op.bytesLess x.path e.path) (l := L))
  rw [List.length_append] at h ⊢
  rw [List.length_cons]
  omega
theorem dw_ge {L : Ents} {e : Ent} (hr : L.Pairwise fun a b => Op.bytesLess a.path b.path = true) (hn : findE L e.path = none) : ∀ x ∈ L.dropWhile (fun x => Op.bytesLess x.path e.path), Op.bytesLess e.path x.path = true := by
  induction L with
  | nil => intro x hx; cases hx
  | cons y r ih =>
    obtain ⟨h1, h2⟩ := List.pairwise_cons.1 hr
    have hn2 : findE r e.path = none := findE_none.2 fun x hx => findE_none.1 hn x (List.mem_cons_of_mem _ hx)
    intro x hx
    cases hy : Op.bytesLess y.path e.path with
    | true =>
      rw [List.dropWhile_cons_of_pos (by simp [hy])] at hx
      exact ih h2 hn2 x hx
    | false =>
      rw [List.dropWhile_cons_of_neg (by simp [hy])] at hx
      have hye : Op.bytesLess e.path y.path = true := bytesLess_total hy (findE_none.1 hn y (List.mem_cons_self ..))
      rcases List.mem_cons.1 hx with rfl | hx
      · exact hye
      · exact bytesLess_trans hye (h1 x hx)
theorem putE_rise {L : Ents} {e : Ent} (hr : L.Pairwise fun a b => Op.bytesLess a.path b.path = true) (hn : findE L e.path = none) : (putE L e).Pairwise fun a b => Op.bytesLess a.path b.path = true := by
  have hs := List.takeWhile_append_dropWhile (p := fun x : Ent => Op.bytesLess x.path e.path) (l := L)
  have hr2 := hr
  rw [← hs] at hr2
  obtain ⟨h1, h2, h3⟩ := List.pairwise_append.1 hr2
  have hge := dw_ge hr hn
  have hlt : ∀ x ∈ L.takeWhile (fun x => Op.bytesLess x.path e.path), Op.bytesLess x.path e.path = true := fun x hx => by
    have := List.all_takeWhile (p := fun x : Ent => Op.bytesLess x.path e.path) (l := L)
    exact List.all_eq_true.1 this x hx
  unfold putE
  refine List.pairwise_append.2 ⟨h1, List.pairwise_cons.2 ⟨hge, h2⟩, fun a ha b hb => ?_⟩
  rcases List.mem_cons.1 hb with rfl | hb
  · exact hlt a ha
  · exact h3 a ha b hb
theorem insE_ok {L : Ents} (h : StoreOk L) (name : List UInt8) (l : List Node) (refs : List (List UInt8)) : StoreOk (insE L name l refs).2 := by
  unfold insE
  split
  · exact h
  split
  · exact h
  split
  · exact h
  split
  · exact h
  rename_i h1 h2 h3 h4
  cases hf : findE L name with
  | some e =>
    simp only
    split <;> exact h
  | none =>
    simp only
    split
    · exact h
    · rename_i h10
      have hw : wrongL l = -1 := by
        rcases wrong_range l with e | e
        · exact e
        · exact absurd e h2
      refine ⟨putE_rise h.rise hf, by rw [putE_length]; have := h.ten; omega, fun e he => ?_, fun e he r hr => ?_⟩
      · rcases putE_mem.1 he with rfl | he
        · exact ⟨by simpa using h1, hw, by simpa using h3⟩
        · exact h.good e he
      · rw [findE_isSome]
        rcases putE_mem.1 he with rfl | he
        · by_cases hrn : r = name
          · exact ⟨_, putE_mem.2 (.inl rfl), hrn.symm⟩
          · have h5 : ¬ (refs.any fun r => r != name && (findE L r).isNone) = true := h4
            rw [List.any_eq_true] at h5
            have h6 : (findE L r).isSome = true := by
              cases hfr : findE L r with
              | some _ => rfl
              | none => exact absurd ⟨r, hr, by simp [hrn, hfr]⟩ h5
            obtain ⟨x, hx, hxe⟩ := findE_isSome.1 h6
            exact ⟨x, putE_mem.2 (.inr hx), hxe⟩
        · obtain ⟨x, hx, hxe⟩ := findE_isSome.1 (h.has e he r hr)
          exact ⟨x, putE_mem.2 (.inr hx), hxe⟩
/- what some paths lead to -/
def readyB (L : Ents) (all out : List (List UInt8)) (e : Ent) : Bool := all.contains e.path && !out.contains e.path && e.refs.all fun r => r == e.path || out.contains r
/-- the least whose references are all told, again and again -/
def closF (L : Ents) (all : List (List UInt8)) : Nat → List (List UInt8) → List (List UInt8)
  | 0, out => out
  | f + 1, out => match L.find? (readyB L all out) with
    | none => out
    | some e => closF L all f (out ++ [e.path])
/-- all that is reached: each path's references behind it, each once -/
def reachF (L : Ents) : Nat → Nat → List (List UInt8) → List (List UInt8)
  | 0, _, all => all
  | f + 1, k, all => match all[k]? with
    | none => all
    | some p => reachF L f (k + 1) (match findE L p with
      | none => all
      | some e => e.refs.foldl (fun a r => if a.contains r then a else a ++ [r]) all)
end Go.Proofs.YtdkogijdfgfpeaaGreatDoor
