/- The parser, plain: what is done with each string that comes. -/
import Derived.Test.YtdkogijdfgfpeaaGreatDoorVPackw
import Derived.Test.YtdkogijdfgfpeaaGreatDoorVMem
import Derived.Test.YtdkogijdfgfpeaaGreatDoorVCome
set_option linter.unusedVariables false
namespace Go.Proofs.YtdkogijdfgfpeaaGreatDoor
open Go Go.RowKit
inductive Act1 where
 | none | open' | kind | file | dir | next' | more
 deriving DecidableEq
inductive Job where
 | word (may : List (List UInt8)) (act : Act1)
 | leads
 | name
 | keep (k : Int)
 | cpath | cref | csum
 deriving DecidableEq
def Job.most : Job → Nat
 | .word _ _ => 8
 | .leads => 100
 | .name => 48
 | .keep _ => 100
 | .cpath => 12
 | .cref => 12
 | .csum => 8
structure CX where
 has : Ents
 name : List UInt8
 refs : List (List UInt8)
 came : Ents
 order : List (List UInt8)
structure PSt where
 rest : List UInt8
 at' : Nat
 err : Int
 bad : Int
 nodes : List Node
 above : Opens
 path : List UInt8
 x : CX
def PSt.fail (σ : PSt) (e : Int) (p : Int) : PSt := if σ.err = 0 then { σ with err := e, bad := p, rest := [] } else σ
def PSt.feed (σ : PSt) (s : List UInt8) : PSt := if σ.err = 0 then { σ with rest := σ.rest ++ s } else σ
def PSt.add (σ : PSt) (k : Int) (d : List UInt8) : PSt := { σ with nodes := σ.nodes ++ [⟨σ.path, k, d⟩] }
def num64 : List UInt8 → Nat
 | [] => 0
 | b :: r => b.toNat + 256 * num64 r
def PSt.next (σ : PSt) (most : Nat) : Option (List UInt8) × PSt :=
 if σ.err ≠ 0 ∨ σ.rest.length < 8 then (.none, σ)
 else if most < num64 (σ.rest.take 8) then (.none, σ.fail 3 σ.at')
 else if σ.rest.length < 8 + num64 (σ.rest.take 8) + padN (num64 (σ.rest.take 8)) then (.none, σ)
 else if ((σ.rest.drop (8 + num64 (σ.rest.take 8))).take (padN (num64 (σ.rest.take 8)))).any (· != 0) then (.none, σ.fail 4 σ.at')
 else (.some ((σ.rest.drop 8).take (num64 (σ.rest.take 8))), { σ with rest := σ.rest.drop (8 + num64 (σ.rest.take 8) + padN (num64 (σ.rest.take 8))), at' := σ.at' + (8 + num64 (σ.rest.take 8) + padN (num64 (σ.rest.take 8))) })
abbrev wEntry : List UInt8 := [101, 110, 116, 114, 121]
abbrev wOpen : List UInt8 := [40]
abbrev wShut : List UInt8 := [41]
abbrev wType : List UInt8 := [116, 121, 112, 101]
abbrev wFile : List UInt8 := [102, 105, 108, 101]
abbrev wLink : List UInt8 := [108, 105, 110, 107]
abbrev wDir : List UInt8 := [100, 105, 114]
abbrev wExec : List UInt8 := [101, 120, 101, 99]
abbrev wData : List UInt8 := [100, 97, 116, 97]
abbrev wTo : List UInt8 := [116, 111]
abbrev wName : List UInt8 := [110, 97, 109, 101]
abbrev wNode : List UInt8 := [110, 111, 100, 101]
abbrev wPath : List UInt8 := [112, 97, 116, 104]
abbrev wEnd : List UInt8 := [101, 110, 100]
abbrev wRefs : List UInt8 := [114, 101, 102, 115]
abbrev wRef : List UInt8 := [114, 101, 102]
abbrev wSum : List UInt8 := [115, 117, 109]
abbrev wExport : List UInt8 := [101, 120, 112, 111, 114, 116, 45, 49]
abbrev wNar : List UInt8 := [110, 97, 114, 45, 49]
def nodeJobs : List Job := [.word [wOpen] .open', .word [wType] .none, .word [wFile, wLink, wDir] .kind]
def dirJob : Job := .word [wEntry, wShut] .dir
def treeJobs : List Job := .word [wNar] .none :: nodeJobs
def moreJob : Job := .word [wRef, wSum] .more
def nextJob : Job := .word [wPath, wEnd] .next'
def risesB (l : List (List UInt8)) (s : List UInt8) : Bool := match l.getLast? with
 | .none => true
 | .some t => Op.bytesLess t s
def freshN (x : CX) : Nat := x.came.countP fun e => (findE x.has e.path).isNone
def CX.ent (x : CX) (l : List Node) : Ent := ⟨x.name, l, x.refs⟩
def entErr (x : CX) (l : List Node) (s : List UInt8) : Int :=
 if s ≠ (sumOf (packP l)).data.toList then 16
 else match findE x.has x.name with
  | .some o => if sameE o (x.ent l) then 0 else 12
  | .none => if x.has.length + freshN x = 10 then 14 else 0
def setE (L : Ents) (e : Ent) : Ents := L.filter (fun o => o.path != e.path) ++ [e]
def pathErr (x : CX) (s : List UInt8) : Int := if !pathB s then 11 else if (findE x.came s).isSome then 7 else 0
def refErr (x : CX) (s : List UInt8) : Int := if !risesB x.refs s then 7 else if s ≠ x.name ∧ findE x.has s = .none ∧ findE x.came s = .none then 13 else 0
def PSt.failIf (σ : PSt) (e : Int) (p : Int) : PSt := if e = 0 then σ else σ.fail e p
def doAct (act : Act1) (s : List UInt8) (p : Int) (σ : PSt) : List Job × PSt :=
 match act with
 | .none => ([], σ)
 | .open' => ([], if 5 < σ.above.length then σ.fail 8 p else if σ.nodes.length = 30 then σ.fail 9 p else σ)
 | .kind =>
   if s = wFile then ([.word [wExec, wData] .file], σ)
   else if s = wLink then ([.word [wTo] .none, .leads, .word [wShut] .none], σ)
   else if s = wDir then ([dirJob], { σ.add 4 [] with above := σ.above ++ [(σ.path, [])] })
   else ([], σ)
 | .next' => if s = wPath then ([.cpath], σ) else ([], σ)
 | .more => if s = wRef then ([.cref, moreJob], σ) else ([.csum, nextJob], σ)
 | .file => if s = wExec then ([.word [[]] .none, .word [wData] .none, .keep 2, .word [wShut] .none], σ) else ([.keep 1, .word [wShut] .none], σ)
 | .dir => if s = wShut then ([], { σ with above := σ.above.dropLast })
   else ([.word [wOpen] .none, .word [wName] .none, .name, .word [wNode] .none] ++ nodeJobs ++ [.word [wShut] .none, dirJob], σ)
def doJob (j : Job) (s : List UInt8) (p : Int) (σ : PSt) : List Job × PSt :=
 match j with
 | .word may act => if s ∈ may then doAct act s p σ else ([], σ.fail 5 p)
 | .leads => ([], (if dataB 3 s then σ else σ.fail 6 p).add 3 s)
 | .name => ([], { (if !nameB s then σ.fail 6 p else if leS s (σ.above.getLastD ([], [])).2 then σ.fail 7 p else σ) with
  above := σ.above.dropLast ++ [((σ.above.getLastD ([], [])).1, s)], path := joinP (σ.above.getLastD ([], [])).1 s })
 | .keep k => ([], σ.add k s)
 | .cpath => (treeJobs ++ [.word [wRefs] .none, moreJob], { σ.failIf (pathErr σ.x s) p with nodes := [], above := [], path := [], x := { σ.x with name := s, refs := [] } })
 | .cref => ([], { σ.failIf (refErr σ.x s) p with x := { σ.x with refs := σ.x.refs ++ [s] } })
 | .csum => ([], { σ.failIf (entErr σ.x σ.nodes s) p with x := { σ.x with came := setE σ.x.came (σ.x.ent σ.nodes), order := σ.x.order ++ [σ.x.name] } })
def runF : Nat → List Job → PSt → List Job × PSt
 | 0, js, σ => (js, σ)
 | _ + 1, [], σ => ([], if σ.rest = [] then σ else σ.fail 10 σ.at')
 | f + 1, j :: js, σ => match σ.next j.most with
   | (.none, σ') => (j :: js, σ')
   | (.some s, σ') => runF f ((doJob j s σ.at' σ').1 ++ js) (doJob j s σ.at' σ').2
def run (js : List Job) (σ : PSt) : List Job × PSt := runF (σ.rest.length + 1) js σ
theorem PSt.feed_bad {σ : PSt} (h : σ.err ≠ 0) (t : List UInt8) : σ.feed t = σ := by rw [PSt.feed, if_neg h]
theorem PSt.feed_ok {σ : PSt} (h : σ.err = 0) (t : List UInt8) : σ.feed t = { σ with rest := σ.rest ++ t } := by rw [PSt.feed, if_pos h]
theorem PSt.fail_bad {σ : PSt} (h : σ.err ≠ 0) (e p : Int) : σ.fail e p = σ := by rw [PSt.fail, if_neg h]
theorem PSt.fail_ok {σ : PSt} (h : σ.err = 0) (e p : Int) : σ.fail e p = { σ with err := e, bad := p, rest := [] } := by rw [PSt.fail, if_pos h]
theorem PSt.fail_feed (σ : PSt) (e p : Int) (he : e ≠ 0) (t : List UInt8) : (σ.feed t).fail e p = (σ.fail e p).feed t := by
 by_cases h : σ.err = 0
 ·rw [PSt.feed_ok h, PSt.fail_ok (σ := σ) h, PSt.fail_ok (by exact h), PSt.feed_bad (by exact he)]
 ·rw [PSt.feed_bad h, PSt.fail_bad h, PSt.feed_bad h]
theorem PSt.feed_feed (σ : PSt) (a b : List UInt8) : (σ.feed a).feed b = σ.feed (a ++ b) := by
 by_cases h : σ.err = 0
 ·rw [PSt.feed_ok h, PSt.feed_ok (by exact h), PSt.feed_ok h, List.append_assoc]
 ·rw [PSt.feed_bad h, PSt.feed_bad h, PSt.feed_bad h]
def PSt.Dry (σ : PSt) : Prop := σ.err ≠ 0 → σ.rest = []
theorem PSt.Dry.fail {σ : PSt} (h : σ.Dry) (e p : Int) : (σ.fail e p).Dry := by
 by_cases h0 : σ.err = 0
 ·rw [PSt.fail_ok h0]; intro _; rfl
 ·rw [PSt.fail_bad h0]; exact h
theorem PSt.Dry.feed {σ : PSt} (h : σ.Dry) (t : List UInt8) : (σ.feed t).Dry := by
 by_cases h0 : σ.err = 0
 ·rw [PSt.feed_ok h0]; intro h1; exact absurd h0 h1
 ·rw [PSt.feed_bad h0]; exact h
inductive NextR (σ : PSt) (most : Nat) : Prop where
 | few : (σ.rest.length < 8 ∨ (8 ≤ σ.rest.length ∧ num64 (σ.rest.take 8) ≤ most ∧ σ.rest.length < 8 + num64 (σ.rest.take 8) + padN (num64 (σ.rest.take 8)))) → σ.next most = (.none, σ) → NextR σ most
 | bad (e : Int) : (e = 3 ∨ e = 4) → (∀ t, (σ.feed t).next most = (.none, (σ.feed t).fail e σ.at')) → NextR σ most
 | got (s : List UInt8) (k : Nat) : 8 ≤ k → k ≤ σ.rest.length → (∀ t, (σ.feed t).next most = (.some s, { σ with rest := σ.rest.drop k, at' := σ.at' + k }.feed t)) → NextR σ most
theorem next_cases (σ : PSt) (most : Nat) (he : σ.err = 0) : NextR σ most := by
 by_cases h8 : σ.rest.length < 8
 ·refine .few (.inl h8) ?_
  rw [PSt.next, if_pos (.inr h8)]
 ·have key : ∀ t, (σ.feed t).err = 0 ∧ (σ.feed t).rest = σ.rest ++ t ∧ (σ.feed t).at' = σ.at' ∧ (σ.rest ++ t).take 8 = σ.rest.take 8 := by
   intro t
   rw [PSt.feed_ok he]
   refine ⟨he, rfl, rfl, ?_⟩
   rw [List.take_append_of_le_length (by omega)]
  by_cases hm : most < num64 (σ.rest.take 8)
  ·refine .bad 3 (.inl rfl) (fun t => ?_)
   obtain ⟨k1, k2, k3, k4⟩ := key t
   rw [PSt.next, if_neg (by rw [k1, k2, List.length_append]; simp; omega), k2, k4, if_pos hm, k3]
  ·by_cases hf : σ.rest.length < 8 + num64 (σ.rest.take 8) + padN (num64 (σ.rest.take 8))
   ·refine .few (.inr ⟨by omega, by omega, hf⟩) ?_
    rw [PSt.next, if_neg (by rw [he]; simp; omega), if_neg hm, if_pos hf]
   ·generalize hn : num64 (σ.rest.take 8) = n at *
    have hd : ∀ t, ((σ.rest ++ t).drop (8 + n)).take (padN n) = (σ.rest.drop (8 + n)).take (padN n) := by
     intro t
     rw [List.drop_append_of_le_length (by omega), List.take_append_of_le_length (by rw [List.length_drop]; omega)]
    have hs : ∀ t, ((σ.rest ++ t).drop 8).take n = (σ.rest.drop 8).take n := by
     intro t
     rw [List.drop_append_of_le_length (by omega), List.take_append_of_le_length (by rw [List.length_drop]; omega)]
    have hr : ∀ t, (σ.rest ++ t).drop (8 + n + padN n) = σ.rest.drop (8 + n + padN n) ++ t := by
     intro t
     rw [List.drop_append_of_le_length (by omega)]
    by_cases hp : ((σ.rest.drop (8 + n)).take (padN n)).any (· != 0) = true
    ·refine .bad 4 (.inr rfl) (fun t => ?_)
     obtain ⟨k1, k2, k3, k4⟩ := key t
     rw [PSt.next, if_neg (by rw [k1, k2, List.length_append]; simp; omega), k2, k4, hn, if_neg hm, if_neg (by rw [List.length_append]; omega), hd, if_pos hp, k3]
    ·refine .got ((σ.rest.drop 8).take n) (8 + n + padN n) (by omega) (by omega) (fun t => ?_)
     obtain ⟨k1, k2, k3, k4⟩ := key t
     rw [PSt.next, if_neg (by rw [k1, k2, List.length_append]; simp; omega), k2, k4, hn, if_neg hm, if_neg (by rw [List.length_append]; omega), hd, if_neg hp, k3, hs, hr]
     rw [PSt.feed_ok he, PSt.feed_ok (by exact he)]
theorem feed_nil (σ : PSt) : σ.feed [] = σ := by
 by_cases h : σ.err = 0
 ·rw [PSt.feed_ok h, List.append_nil]
 ·rw [PSt.feed_bad h]
theorem next_bad {σ : PSt} (h : σ.err ≠ 0) (most : Nat) : σ.next most = (.none, σ) := by rw [PSt.next, if_pos (.inl h)]
theorem feed_x (σ : PSt) (t : List UInt8) : (σ.feed t).x = σ.x ∧ (σ.feed t).nodes = σ.nodes := by unfold PSt.feed; split <;> exact ⟨rfl, rfl⟩
theorem fail_x (σ : PSt) (e p : Int) : (σ.fail e p).x = σ.x ∧ (σ.fail e p).nodes = σ.nodes := by unfold PSt.fail; split <;> exact ⟨rfl, rfl⟩
theorem failIf_x (σ : PSt) (e p : Int) : (σ.failIf e p).x = σ.x ∧ (σ.failIf e p).nodes = σ.nodes := by
 unfold PSt.failIf; split
 ·exact ⟨rfl, rfl⟩
 ·exact fail_x ..
theorem failIf_feed (σ : PSt) (e p : Int) (t : List UInt8) : (σ.feed t).failIf e p = (σ.failIf e p).feed t := by
 unfold PSt.failIf
 split
 ·rfl
 ·rename_i h; exact PSt.fail_feed _ _ _ h _
theorem feed_upd (σ : PSt) (l : List Node) (ab : Opens) (q : List UInt8) (y : CX) (t : List UInt8) : ({ σ with nodes := l, above := ab, path := q, x := y } : PSt).feed t = { σ.feed t with nodes := l, above := ab, path := q, x := y } := by
 unfold PSt.feed; split <;> simp_all
theorem feed_updx (σ : PSt) (y : CX) (t : List UInt8) : ({ σ with x := y } : PSt).feed t = { σ.feed t with x := y } := by
 unfold PSt.feed; split <;> simp_all
theorem doAct_feed (a : Act1) (s : List UInt8) (p : Int) (σ : PSt) (t : List UInt8) : doAct a s p (σ.feed t) = ((doAct a s p σ).1, (doAct a s p σ).2.feed t) := by
 by_cases h : σ.err = 0
 ·cases a <;> simp only [doAct]
  ·rw [PSt.fail_feed _ _ _ (by decide), PSt.fail_feed _ _ _ (by decide), PSt.feed_ok h]
   simp only
   split
   ·rfl
   ·split
    ·rfl
    ·rw [PSt.feed_ok h]
  ·split
   ·rfl
   ·split
    ·rfl
    ·split
     ·simp only [PSt.feed_ok h, PSt.add]
      rw [PSt.feed_ok (by exact h)]
     ·rfl
  ·split <;> rfl
  ·split
   ·simp only [PSt.feed_ok h]
    rw [PSt.feed_ok (by exact h)]
   ·rfl
  ·split <;> rfl
  ·split <;> rfl
 ·have h2 : (doAct a s p σ).2.err ≠ 0 := by
   cases a <;> simp only [doAct]
   ·exact h
   ·split
    ·rw [PSt.fail_bad h]; exact h
    ·split
     ·rw [PSt.fail_bad h]; exact h
     ·exact h
   ·split
    ·exact h
    ·split
     ·exact h
     ·split <;> exact h
   ·split <;> exact h
   ·split <;> exact h
   ·split <;> exact h
   ·split <;> exact h
  rw [PSt.feed_bad h, PSt.feed_bad h2]
theorem doJob_feed (j : Job) (s : List UInt8) (p : Int) (σ : PSt) (he : σ.err = 0) (t : List UInt8) : doJob j s p (σ.feed t) = ((doJob j s p σ).1, (doJob j s p σ).2.feed t) := by
 cases j with
 | word may act =>
   simp only [doJob]
   split
   ·exact doAct_feed ..
   ·rw [PSt.fail_feed _ _ _ (by decide)]
 | leads =>
   simp only [doJob]
   split
   ·simp only [PSt.add, PSt.feed_ok he]; rw [PSt.feed_ok (by exact he)]
   ·rw [PSt.fail_feed _ _ _ (by decide), PSt.fail_ok he, PSt.feed_bad (by show (6:Int) ≠ 0; decide), PSt.feed_bad (by show (6:Int) ≠ 0; decide)]
 | name =>
   simp only [doJob, PSt.feed_ok he]
   split
   ·simp only [PSt.fail, he, if_true]; rw [PSt.feed_bad (by show (6:Int) ≠ 0; decide)]
   ·split
    ·simp only [PSt.fail, he, if_true]; rw [PSt.feed_bad (by show (7:Int) ≠ 0; decide)]
    ·rw [PSt.feed_ok (by exact he)]
 | keep k => simp only [doJob, PSt.add, PSt.feed_ok he]; rw [PSt.feed_ok (by exact he)]
 | cpath => simp only [doJob]; rw [(feed_x σ t).1, failIf_feed]; exact congrArg (Prod.mk _) (feed_upd _ _ _ _ _ _).symm
 | cref => simp only [doJob]; rw [(feed_x σ t).1, failIf_feed]; exact congrArg (Prod.mk _) (feed_updx _ _ _).symm
 | csum => simp only [doJob]; rw [(feed_x σ t).1, (feed_x σ t).2, failIf_feed]; exact congrArg (Prod.mk _) (feed_updx _ _ _).symm
theorem fail_rest_le (σ : PSt) (e p : Int) : (σ.fail e p).rest.length ≤ σ.rest.length := by
 unfold PSt.fail; split
 ·simp
 ·exact Nat.le_refl _
theorem failIf_rest_le (σ : PSt) (e p : Int) : (σ.failIf e p).rest.length ≤ σ.rest.length := by
 unfold PSt.failIf; split
 ·exact Nat.le_refl _
 ·exact fail_rest_le ..
theorem doJob_rest (j : Job) (s : List UInt8) (p : Int) (σ : PSt) : (doJob j s p σ).2.rest.length ≤ σ.rest.length := by
 have hf := fail_rest_le σ
 cases j with
 | word may act =>
   simp only [doJob]
   split
   ·cases act <;> simp only [doAct]
    ·exact Nat.le_refl _
    ·split
     ·exact hf _ _
     ·split
      ·exact hf _ _
      ·exact Nat.le_refl _
    ·split
     ·exact Nat.le_refl _
     ·split
      ·exact Nat.le_refl _
      ·split <;> exact Nat.le_refl _
    ·split <;> exact Nat.le_refl _
    ·split <;> exact Nat.le_refl _
    ·split <;> exact Nat.le_refl _
    ·split <;> exact Nat.le_refl _
   ·exact hf _ _
 | leads =>
   simp only [doJob]
   split
   ·exact Nat.le_refl _
   ·exact hf _ _
 | name =>
   simp only [doJob]
   split
   ·exact hf _ _
   ·split
    ·exact hf _ _
    ·exact Nat.le_refl _
 | keep k => exact Nat.le_refl _
 | cpath => exact failIf_rest_le ..
 | cref => exact failIf_rest_le ..
 | csum => exact failIf_rest_le ..
theorem PSt.Dry.failIf {σ : PSt} (h : σ.Dry) (e p : Int) : (σ.failIf e p).Dry := by
 unfold PSt.failIf; split
 ·exact h
 ·exact h.fail _ _
theorem doAct_dry (a : Act1) (s : List UInt8) (p : Int) (σ : PSt) (h : σ.Dry) : (doAct a s p σ).2.Dry := by
 cases a <;> simp only [doAct]
 ·exact h
 ·split
  ·exact h.fail _ _
  ·split
   ·exact h.fail _ _
   ·exact h
 ·split
  ·exact h
  ·split
   ·exact h
   ·split <;> exact h
 ·split <;> exact h
 ·split <;> exact h
 ·split <;> exact h
 ·split <;> exact h
theorem doJob_dry (j : Job) (s : List UInt8) (p : Int) (σ : PSt) (h : σ.Dry) : (doJob j s p σ).2.Dry := by
 cases j with
 | word may act =>
   simp only [doJob]
   split
   ·exact doAct_dry _ _ _ _ h
   ·exact h.fail _ _
 | leads =>
   simp only [doJob]
   split
   ·exact h
   ·exact h.fail _ _
 | name =>
   simp only [doJob]
   split
   ·exact h.fail _ _
   ·split
    ·exact h.fail _ _
    ·exact h
 | keep k => exact h
 | cpath => exact h.failIf _ _
 | cref => exact h.failIf _ _
 | csum => exact h.failIf _ _
theorem got_feed0 {σ σ' : PSt} {most : Nat} {r : Option (List UInt8)} (h : ∀ t, (σ.feed t).next most = (r, σ'.feed t)) : σ.next most = (r, σ') := by
 have := h []
 rwa [feed_nil, feed_nil] at this
theorem runF_fuel : ∀ (f g : Nat) (js : List Job) (σ : PSt), σ.rest.length < f → σ.rest.length < g → runF f js σ = runF g js σ
 | 0, _, _, _, h, _ => absurd h (by omega)
 | _, 0, _, _, _, h => absurd h (by omega)
 | f + 1, g + 1, [], σ, _, _ => by simp only [runF]
 | f + 1, g + 1, j :: js, σ, hf, hg => by
   by_cases he : σ.err = 0
   ·rcases next_cases σ j.most he with ⟨h1, h2⟩ | ⟨e, h1, h2⟩ | ⟨s, k, hk8, hkl, h2⟩
    ·simp only [runF, h2]
    ·have := h2 []
     rw [feed_nil] at this
     simp only [runF, this]
    ·have := got_feed0 h2
     simp only [runF, this]
     have hr := doJob_rest j s σ.at' { σ with rest := σ.rest.drop k, at' := σ.at' + k }
     simp only [List.length_drop] at hr
     exact runF_fuel f g _ _ (by omega) (by omega)
   ·simp only [runF, next_bad he]
theorem run_nil (σ : PSt) : run [] σ = ([], if σ.rest = [] then σ else σ.fail 10 σ.at') := rfl
theorem run_stop {j : Job} {js : List Job} {σ σ' : PSt} (h : σ.next j.most = (.none, σ')) : run (j :: js) σ = (j :: js, σ') := by
 show runF (σ.rest.length + 1) (j :: js) σ = _
 simp only [runF, h]
theorem run_got {j : Job} {js : List Job} {σ : PSt} {s : List UInt8} {k : Nat} (hk8 : 8 ≤ k) (hkl : k ≤ σ.rest.length) (h : σ.next j.most = (.some s, { σ with rest := σ.rest.drop k, at' := σ.at' + k })) :
 run (j :: js) σ = run ((doJob j s σ.at' { σ with rest := σ.rest.drop k, at' := σ.at' + k }).1 ++ js) (doJob j s σ.at' { σ with rest := σ.rest.drop k, at' := σ.at' + k }).2 := by
 have hr := doJob_rest j s σ.at' { σ with rest := σ.rest.drop k, at' := σ.at' + k }
 simp only [List.length_drop] at hr
 show runF (σ.rest.length + 1) (j :: js) σ = runF _ _ _
 simp only [runF, h]
 exact runF_fuel _ _ _ _ (by omega) (by omega)
theorem run_bad {σ : PSt} (h : σ.err ≠ 0) (hd : σ.Dry) (js : List Job) : run js σ = (js, σ) := by
 cases js with
 | nil => rw [run_nil, if_pos (hd h)]
 | cons j js => exact run_stop (next_bad h _)
theorem run_feed : ∀ (n : Nat) (js : List Job) (σ : PSt) (t : List UInt8), σ.rest.length ≤ n → σ.Dry → run js (σ.feed t) = run (run js σ).1 ((run js σ).2.feed t) ∧ (run js σ).2.Dry
 | n, js, σ, t, hn, hd => by
   by_cases he : σ.err = 0
   ·cases js with
    | nil =>
      rw [run_nil, run_nil, PSt.feed_ok he]
      by_cases hr : σ.rest = []
      ·simp only [hr, if_true, List.nil_append]
       rw [run_nil, PSt.feed_ok he, hr]
       exact ⟨rfl, hd⟩
      ·simp only [if_neg hr]
       rw [if_neg (by simp [hr])]
       rw [run_nil, PSt.fail_ok he, PSt.feed_bad (by show (10:Int) ≠ 0; decide), PSt.fail_ok (by exact he)]
       exact ⟨rfl, fun _ => rfl⟩
    | cons j js =>
      rcases next_cases σ j.most he with ⟨h1, h2⟩ | ⟨e, h1, h2⟩ | ⟨s, k, hk8, hkl, h2⟩
      ·rw [run_stop h2]
       exact ⟨rfl, hd⟩
      ·have h0 := h2 []
       rw [feed_nil] at h0
       have he0 : e ≠ 0 := by rcases h1 with rfl | rfl <;> decide
       rw [run_stop h0, run_stop (h2 t), PSt.fail_feed _ _ _ he0]
       refine ⟨?_, hd.fail _ _⟩
       have hb : ((σ.fail e σ.at').feed t).err ≠ 0 := by
        rw [PSt.fail_ok he, PSt.feed_bad (by exact he0)]; exact he0
       rw [run_bad hb ((hd.fail _ _).feed _)]
      ·have h0 := got_feed0 h2
       rw [run_got hk8 hkl h0]
       have hr := doJob_rest j s σ.at' { σ with rest := σ.rest.drop k, at' := σ.at' + k }
       simp only [List.length_drop] at hr
       have hdd : PSt.Dry { σ with rest := σ.rest.drop k, at' := σ.at' + k } := fun h => absurd he h
       have ih := run_feed (n - 1) ((doJob j s σ.at' { σ with rest := σ.rest.drop k, at' := σ.at' + k }).1 ++ js) (doJob j s σ.at' { σ with rest := σ.rest.drop k, at' := σ.at' + k }).2 t (by omega) (doJob_dry _ _ _ _ hdd)
       refine ⟨?_, ih.2⟩
       rw [← ih.1]
       have h3 : run (j :: js) (σ.feed t) = run ((doJob j s σ.at' ({ σ with rest := σ.rest.drop k, at' := σ.at' + k }.feed t)).1 ++ js) (doJob j s σ.at' ({ σ with rest := σ.rest.drop k, at' := σ.at' + k }.feed t)).2 := by
        have hh := h2 t
        have e1 : ({ σ with rest := σ.rest.drop k, at' := σ.at' + k } : PSt).feed t = { (σ.feed t) with rest := (σ.feed t).rest.drop k, at' := (σ.feed t).at' + k } := by
         rw [PSt.feed_ok (by exact he), PSt.feed_ok he, List.drop_append_of_le_length hkl]
        rw [e1] at hh ⊢
        have e2 : σ.at' = (σ.feed t).at' := by rw [PSt.feed_ok he]
        rw [e2]
        exact run_got hk8 (by rw [PSt.feed_ok he, List.length_append]; omega) hh
       rw [h3, doJob_feed _ _ _ _ (by exact he)]
   ·rw [PSt.feed_bad he, run_bad he hd, PSt.feed_bad he, run_bad he hd]
    exact ⟨rfl, hd⟩
 termination_by n _ σ => σ.rest.length
 decreasing_by simp only [List.length_drop] at *; omega
def steps : List (List UInt8) → List Job × PSt → List Job × PSt
 | [], x => x
 | p :: ps, x => steps ps (run x.1 (x.2.feed p))
theorem steps_run : ∀ (ps : List (List UInt8)) (js : List Job) (σ : PSt), σ.Dry → steps ps (run js σ) = run js (σ.feed ps.flatten)
 | [], js, σ, _ => by rw [List.flatten_nil, feed_nil]; rfl
 | p :: ps, js, σ, hd => by
   show steps ps (run (run js σ).1 ((run js σ).2.feed p)) = _
   rw [← (run_feed _ js σ p (Nat.le_refl _) hd).1, steps_run ps js _ (hd.feed p), PSt.feed_feed, List.flatten_cons]
end Go.Proofs.YtdkogijdfgfpeaaGreatDoor
