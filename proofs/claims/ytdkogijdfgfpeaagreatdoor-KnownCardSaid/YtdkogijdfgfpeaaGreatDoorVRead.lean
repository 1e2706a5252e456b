/- Plain: the document's reader, and that the parser tells the same of the whole bytes. -/
import Derived.Test.YtdkogijdfgfpeaaGreatDoorVParse
import Derived.Test.YtdkogijdfgfpeaaGreatDoorVPackw
import Derived.ProofKit
import Derived.OpenShut
import Derived.SizedLaws
import Derived.WideKeyArgs
import Derived.Deep.Slices
import Derived.Deep.Fields
import Derived.Deep.DeepHandedRow
import Derived.Deep.DeepWitnessRowRef
import Derived.Lib.LaidIn
import Derived.Lib.LaidU8T
import Derived.Lib.LaidTab
set_option linter.unusedVariables false
namespace Go.Proofs.YtdkogijdfgfpeaaGreatDoor
open Go Go.RowKit
structure RS where
 rest : List UInt8
 at' : Nat
 nodes : List Node
abbrev RE (α : Type) := Except (Int × Int) α
def RS.skip (ρ : RS) (k : Nat) : RS := { ρ with rest := ρ.rest.drop k, at' := ρ.at' + k }
def RS.add (ρ : RS) (n : Node) : RS := { ρ with nodes := ρ.nodes ++ [n] }
def RS.few (ρ : RS) : Int × Int := (2, (ρ.at' : Int) + (ρ.rest.length : Int))
def rNext (most : Nat) (ρ : RS) : RE (List UInt8 × RS) :=
 if ρ.rest.length < 8 then .error ρ.few
 else if most < num64 (ρ.rest.take 8) then .error (3, (ρ.at' : Int))
 else if ρ.rest.length < 8 + num64 (ρ.rest.take 8) + padN (num64 (ρ.rest.take 8)) then .error ρ.few
 else if ((ρ.rest.drop (8 + num64 (ρ.rest.take 8))).take (padN (num64 (ρ.rest.take 8)))).any (· != 0) then .error (4, (ρ.at' : Int))
 else .ok ((ρ.rest.drop 8).take (num64 (ρ.rest.take 8)), ρ.skip (8 + num64 (ρ.rest.take 8) + padN (num64 (ρ.rest.take 8))))
def rWord (may : List (List UInt8)) (ρ : RS) : RE (List UInt8 × RS) :=
 (rNext 8 ρ).bind fun x => if x.1 ∈ may then .ok x else .error (5, (ρ.at' : Int))
def rFile (path : List UInt8) (ρ : RS) : RE RS :=
 (rWord [wExec, wData] ρ).bind fun x =>
   if x.1 = wExec then
    (rWord [[]] x.2).bind fun x => (rWord [wData] x.2).bind fun x => (rNext 100 x.2).bind fun x => (rWord [wShut] (x.2.add ⟨path, 2, x.1⟩)).bind fun x => .ok x.2
   else (rNext 100 x.2).bind fun x => (rWord [wShut] (x.2.add ⟨path, 1, x.1⟩)).bind fun x => .ok x.2
def rLink (path : List UInt8) (ρ : RS) : RE RS :=
 (rWord [wTo] ρ).bind fun y => (rNext 100 y.2).bind fun x => if dataB 3 x.1 then (rWord [wShut] (x.2.add ⟨path, 3, x.1⟩)).bind fun x => .ok x.2 else .error (6, (y.2.at' : Int))
def rDirF (node : List UInt8 → RS → RE RS) (path : List UInt8) : Nat → List UInt8 → RS → RE RS
 | 0, _, ρ => .ok ρ
 | f + 1, last, ρ => (rWord [wEntry, wShut] ρ).bind fun x =>
   if x.1 = wShut then .ok x.2 else
   (rWord [wOpen] x.2).bind fun x => (rWord [wName] x.2).bind fun y => (rNext 48 y.2).bind fun x =>
     if nameB x.1 = false then .error (6, (y.2.at' : Int)) else if leS x.1 last then .error (7, (y.2.at' : Int)) else
     (rWord [wNode] x.2).bind fun z => (node (joinP path x.1) z.2).bind fun ρ => (rWord [wShut] ρ).bind fun z => rDirF node path f x.1 z.2
def rNode : Nat → List UInt8 → RS → RE RS
 | 0, _, ρ => (rWord [wOpen] ρ).bind fun _ => .error (8, (ρ.at' : Int))
 | d + 1, path, ρ => (rWord [wOpen] ρ).bind fun x => if x.2.nodes.length = 30 then .error (9, (ρ.at' : Int)) else
   (rWord [wType] x.2).bind fun x => (rWord [wFile, wLink, wDir] x.2).bind fun x =>
     if x.1 = wFile then rFile path x.2 else if x.1 = wLink then rLink path x.2 else rDirF (rNode d) path (x.2.rest.length + 1) [] (x.2.add ⟨path, 4, []⟩)
def finish (r : List Job × PSt) : PSt := if r.1 = [] then r.2 else r.2.fail 2 ((r.2.at' : Int) + (r.2.rest.length : Int))
def told (σ : PSt) : RE (List Node × CX) := if σ.err = 0 then .ok (σ.nodes, σ.x) else .error (σ.err, σ.bad)
def outcome (js : List Job) (σ : PSt) : RE (List Node × CX) := told (finish (run js σ))
def RS.par (ρ : RS) (ab : Opens) (p : List UInt8) (cx : CX := by assumption) : PSt := ⟨ρ.rest, ρ.at', 0, 0, ρ.nodes, ab, p, cx⟩
section
variable {cx : CX}
theorem outcome_bad {σ : PSt} (h : σ.err ≠ 0) (hd : σ.Dry) (js : List Job) : outcome js σ = .error (σ.err, σ.bad) := by
 rw [outcome, run_bad h hd, finish]
 simp only [PSt.fail_bad h, ite_self]
 rw [told, if_neg h]
theorem outcome_next (j : Job) (js : List Job) (ρ : RS) (ab : Opens) (p : List UInt8) :
 outcome (j :: js) (ρ.par ab p) = match rNext j.most ρ with
  | .error e => .error e
  | .ok x => outcome ((doJob j x.1 (ρ.at' : Int) (x.2.par ab p)).1 ++ js) (doJob j x.1 (ρ.at' : Int) (x.2.par ab p)).2 := by
 have hbad : ∀ e : Int, e ≠ 0 → ((ρ.par ab p).next j.most = (.none, (ρ.par ab p).fail e ρ.at')) → outcome (j :: js) (ρ.par ab p) = .error (e, (ρ.at' : Int)) := by
  intro e he h
  rw [outcome, run_stop h, finish, if_neg (by simp), PSt.fail_ok (σ := ρ.par ab p cx) rfl, PSt.fail_bad (by exact he), told, if_neg (by exact he)]
 have hfew : ((ρ.par ab p).next j.most = (.none, ρ.par ab p)) → outcome (j :: js) (ρ.par ab p) = .error ρ.few := by
  intro h
  rw [outcome, run_stop h, finish, if_neg (by simp), PSt.fail_ok (σ := ρ.par ab p cx) rfl, told, if_neg (by show (2:Int) ≠ 0; decide)]
  rfl
 unfold rNext
 by_cases h8 : ρ.rest.length < 8
 ·rw [if_pos h8]
  exact hfew (by rw [PSt.next, if_pos (.inr h8)])
 rw [if_neg h8]
 have hne : ¬ ((ρ.par ab p).err ≠ 0 ∨ (ρ.par ab p).rest.length < 8) := by
  rintro (h | h)
  ·exact h rfl
  ·exact h8 h
 by_cases hm : j.most < num64 (ρ.rest.take 8)
 ·rw [if_pos hm]
  exact hbad 3 (by decide) (by rw [PSt.next, if_neg hne]; exact if_pos hm)
 rw [if_neg hm]
 by_cases hf : ρ.rest.length < 8 + num64 (ρ.rest.take 8) + padN (num64 (ρ.rest.take 8))
 ·rw [if_pos hf]
  exact hfew (by rw [PSt.next, if_neg hne]; exact (if_neg hm).trans (if_pos hf))
 rw [if_neg hf]
 by_cases hp : ((ρ.rest.drop (8 + num64 (ρ.rest.take 8))).take (padN (num64 (ρ.rest.take 8)))).any (· != 0) = true
 ·rw [if_pos hp]
  exact hbad 4 (by decide) (by rw [PSt.next, if_neg hne]; exact (if_neg hm).trans ((if_neg hf).trans (if_pos hp)))
 rw [if_neg hp]
 have h : (ρ.par ab p).next j.most = (.some ((ρ.rest.drop 8).take (num64 (ρ.rest.take 8))), { (ρ.par ab p) with rest := (ρ.par ab p).rest.drop (8 + num64 (ρ.rest.take 8) + padN (num64 (ρ.rest.take 8))), at' := (ρ.par ab p).at' + (8 + num64 (ρ.rest.take 8) + padN (num64 (ρ.rest.take 8))) }) := by
  rw [PSt.next, if_neg hne]; exact (if_neg hm).trans ((if_neg hf).trans (if_neg hp))
 rw [outcome, run_got (by omega) (by show _ ≤ ρ.rest.length; omega) h]
 rfl
theorem outcome_word (may : List (List UInt8)) (act : Act1) (js : List Job) (ρ : RS) (ab : Opens) (p : List UInt8) :
 outcome (.word may act :: js) (ρ.par ab p) = match rWord may ρ with
  | .error e => .error e
  | .ok x => outcome ((doAct act x.1 (ρ.at' : Int) (x.2.par ab p)).1 ++ js) (doAct act x.1 (ρ.at' : Int) (x.2.par ab p)).2 := by
 rw [outcome_next, rWord]
 show (match rNext 8 ρ with | .error e => _ | .ok x => _) = _
 cases h : rNext 8 ρ with
 | error e => rfl
 | ok x =>
   simp only [Except.bind, doJob]
   by_cases hm : x.1 ∈ may
   ·simp only [if_pos hm]
   ·simp only [if_neg hm]
    rw [outcome_bad (by show (5:Int) ≠ 0; decide) (fun _ => rfl)]
    rfl
def Goes (js : List Job) (σ : PSt) (r : RE RS) (k : List Job) (ab : Opens) (cx : CX := by assumption) : Prop :=
 match r with
 | .error e => outcome js σ = .error e
 | .ok ρ => ∃ p, outcome js σ = outcome k (ρ.par ab p)
theorem Goes.of_eq {js js' : List Job} {σ σ' : PSt} {r : RE RS} {k : List Job} {ab : Opens} (he : outcome js σ = outcome js' σ') (h : Goes js' σ' r k ab) : Goes js σ r k ab := by
 cases r with
 | error e => exact he.trans h
 | ok ρ => obtain ⟨p, h⟩ := h; exact ⟨p, he.trans h⟩
theorem goes_word {may : List (List UInt8)} {act : Act1} {js k : List Job} {ρ : RS} {ab ab' : Opens} {p : List UInt8} {f : List UInt8 × RS → RE RS}
 (h : ∀ x, rWord may ρ = .ok x → Goes ((doAct act x.1 (ρ.at' : Int) (x.2.par ab p)).1 ++ js) (doAct act x.1 (ρ.at' : Int) (x.2.par ab p)).2 (f x) k ab') :
 Goes (.word may act :: js) (ρ.par ab p) ((rWord may ρ).bind f) k ab' := by
 have ho := outcome_word (cx := cx) may act js ρ ab p
 cases hw : rWord may ρ with
 | error e => rw [hw] at ho; exact ho
 | ok x => rw [hw] at ho; exact (h x hw).of_eq ho
theorem goes_plain {may : List (List UInt8)} {js k : List Job} {ρ : RS} {ab ab' : Opens} {p : List UInt8} {f : List UInt8 × RS → RE RS}
 (h : ∀ x, rWord may ρ = .ok x → Goes js (x.2.par ab p) (f x) k ab') :
 Goes (.word may .none :: js) (ρ.par ab p) ((rWord may ρ).bind f) k ab' := goes_word h
theorem goes_next {j : Job} {js k : List Job} {ρ : RS} {ab ab' : Opens} {p : List UInt8} {f : List UInt8 × RS → RE RS}
 (h : ∀ x, rNext j.most ρ = .ok x → Goes ((doJob j x.1 (ρ.at' : Int) (x.2.par ab p)).1 ++ js) (doJob j x.1 (ρ.at' : Int) (x.2.par ab p)).2 (f x) k ab') :
 Goes (j :: js) (ρ.par ab p) ((rNext j.most ρ).bind f) k ab' := by
 have ho := outcome_next (cx := cx) j js ρ ab p
 cases hw : rNext j.most ρ with
 | error e => rw [hw] at ho; exact ho
 | ok x => rw [hw] at ho; exact (h x hw).of_eq ho
theorem goes_last {may : List (List UInt8)} {k : List Job} {ρ : RS} {ab : Opens} {p : List UInt8} : Goes (.word may .none :: k) (ρ.par ab p) ((rWord may ρ).bind fun x => .ok x.2) k ab :=
 goes_plain fun x _ => ⟨p, rfl⟩
theorem goes_error {js k : List Job} {σ : PSt} {ab : Opens} {e b : Int} (he : e ≠ 0) (h1 : σ.err = e) (h2 : σ.bad = b) (h3 : σ.rest = []) : Goes js σ (.error (e, b)) k ab := by
 show outcome js σ = _
 rw [outcome_bad (by rw [h1]; exact he) (fun _ => h3), h1, h2]
theorem rNext_ok {most : Nat} {ρ : RS} {x : List UInt8 × RS} (h : rNext most ρ = .ok x) : ∃ k, 8 ≤ k ∧ k ≤ ρ.rest.length ∧ x.2 = ρ.skip k ∧ x.1.length ≤ most ∧ x.1.length + 8 ≤ k := by
 unfold rNext at h
 split at h
 ·cases h
 ·split at h
  ·cases h
  ·split at h
   ·cases h
   ·split at h
    ·cases h
    ·cases h
     exact ⟨_, by omega, by omega, rfl, by rw [List.length_take]; omega, by rw [List.length_take]; omega⟩
theorem rWord_ok {may : List (List UInt8)} {ρ : RS} {x : List UInt8 × RS} (h : rWord may ρ = .ok x) : rNext 8 ρ = .ok x ∧ x.1 ∈ may := by
 unfold rWord at h
 cases hn : rNext 8 ρ with
 | error e => rw [hn] at h; cases h
 | ok y =>
   rw [hn] at h
   simp only [Except.bind] at h
   split at h
   ·cases h
    exact ⟨rfl, by assumption⟩
   ·cases h
theorem goes_file (path : List UInt8) (k : List Job) (ρ : RS) (ab : Opens) : Goes (.word [wExec, wData] .file :: k) (ρ.par ab path) (rFile path ρ) k ab := by
 refine goes_word fun x hx => ?_
 simp only [doAct]
 split
 ·exact goes_plain fun x _ => goes_plain fun x _ => goes_next (j := .keep 2) fun x _ => goes_last (ρ := x.2.add ⟨path, 2, x.1⟩)
 ·exact goes_next (j := .keep 1) fun x _ => goes_last (ρ := x.2.add ⟨path, 1, x.1⟩)
theorem goes_link (path : List UInt8) (k : List Job) (ρ : RS) (ab : Opens) : Goes (.word [wTo] .none :: .leads :: .word [wShut] .none :: k) (ρ.par ab path) (rLink path ρ) k ab := by
 refine goes_plain fun y hy => goes_next (j := .leads) fun x hx => ?_
 by_cases hd : dataB 3 x.1 = true
 ·simp only [doJob, hd, if_true]
  exact goes_last (ρ := x.2.add ⟨path, 3, x.1⟩)
 ·simp only [doJob, if_neg hd]
  exact goes_error (by decide) rfl rfl rfl
def NodeGoes (d : Nat) (cx : CX := by assumption) : Prop := ∀ (path : List UInt8) (k : List Job) (ρ : RS) (ab : Opens), ab.length + d = 6 → Goes (nodeJobs ++ k) (ρ.par ab path) (rNode d path ρ) k ab
theorem rNext_le {most : Nat} {ρ : RS} {x : List UInt8 × RS} (h : rNext most ρ = .ok x) : x.2.rest.length + 8 ≤ ρ.rest.length := by
 obtain ⟨k, h1, h2, h3, -⟩ := rNext_ok h
 rw [h3]
 simp only [RS.skip, List.length_drop]
 omega
theorem rWord_le {may : List (List UInt8)} {ρ : RS} {x : List UInt8 × RS} (h : rWord may ρ = .ok x) : x.2.rest.length + 8 ≤ ρ.rest.length := rNext_le (rWord_ok h).1
theorem bind_ok {α β : Type} {r : RE α} {f : α → RE β} {y : β} (h : r.bind f = .ok y) : ∃ x, r = .ok x ∧ f x = .ok y := by
 cases r with
 | error e => cases h
 | ok x => exact ⟨x, rfl, h⟩
theorem rFile_le {path : List UInt8} {ρ ρ' : RS} (h : rFile path ρ = .ok ρ') : ρ'.rest.length ≤ ρ.rest.length := by
 unfold rFile at h
 obtain ⟨x, h1, h⟩ := bind_ok h
 have l1 := rWord_le h1
 split at h
 ·obtain ⟨a, h2, h⟩ := bind_ok h
  obtain ⟨b, h3, h⟩ := bind_ok h
  obtain ⟨c, h4, h⟩ := bind_ok h
  obtain ⟨d, h5, h⟩ := bind_ok h
  cases h
  have l2 := rWord_le h2
  have l3 := rWord_le h3
  have l4 := rNext_le h4
  have l5 := rWord_le h5
  simp only [RS.add] at l5
  omega
 ·obtain ⟨c, h4, h⟩ := bind_ok h
  obtain ⟨d, h5, h⟩ := bind_ok h
  cases h
  have l4 := rNext_le h4
  have l5 := rWord_le h5
  simp only [RS.add] at l5
  omega
theorem rLink_le {path : List UInt8} {ρ ρ' : RS} (h : rLink path ρ = .ok ρ') : ρ'.rest.length ≤ ρ.rest.length := by
 unfold rLink at h
 obtain ⟨x, h1, h⟩ := bind_ok h
 obtain ⟨y, h2, h⟩ := bind_ok h
 have l1 := rWord_le h1
 have l2 := rNext_le h2
 split at h
 ·obtain ⟨d, h5, h⟩ := bind_ok h
  cases h
  have l5 := rWord_le h5
  simp only [RS.add] at l5
  omega
 ·cases h
theorem rDirF_le {node : List UInt8 → RS → RE RS} (hn : ∀ p ρ ρ', node p ρ = .ok ρ' → ρ'.rest.length ≤ ρ.rest.length) (path : List UInt8) : ∀ (f : Nat) (last : List UInt8) (ρ ρ' : RS), rDirF node path f last ρ = .ok ρ' → ρ'.rest.length ≤ ρ.rest.length
 | 0, _, ρ, ρ', h => by cases h; exact Nat.le_refl _
 | f + 1, last, ρ, ρ', h => by
   unfold rDirF at h
   obtain ⟨x, h1, h⟩ := bind_ok h
   have l1 := rWord_le h1
   split at h
   ·cases h; omega
   ·obtain ⟨a, h2, h⟩ := bind_ok h
    obtain ⟨b, h3, h⟩ := bind_ok h
    obtain ⟨c, h4, h⟩ := bind_ok h
    have l2 := rWord_le h2
    have l3 := rWord_le h3
    have l4 := rNext_le h4
    split at h
    ·cases h
    ·split at h
     ·cases h
     ·obtain ⟨d, h5, h⟩ := bind_ok h
      obtain ⟨e, h6, h⟩ := bind_ok h
      obtain ⟨g, h7, h⟩ := bind_ok h
      have l5 := rWord_le h5
      have l6 := hn _ _ _ h6
      have l7 := rWord_le h7
      have := rDirF_le hn path f _ _ _ h
      omega
theorem rNode_le : ∀ (d : Nat) (path : List UInt8) (ρ ρ' : RS), rNode d path ρ = .ok ρ' → ρ'.rest.length ≤ ρ.rest.length
 | 0, path, ρ, ρ', h => by
   unfold rNode at h
   obtain ⟨x, h1, h⟩ := bind_ok h
   cases h
 | d + 1, path, ρ, ρ', h => by
   unfold rNode at h
   obtain ⟨x, h1, h⟩ := bind_ok h
   have l1 := rWord_le h1
   split at h
   ·cases h
   ·obtain ⟨y, h2, h⟩ := bind_ok h
    obtain ⟨z, h3, h⟩ := bind_ok h
    have l2 := rWord_le h2
    have l3 := rWord_le h3
    split at h
    ·have := rFile_le h; omega
    ·split at h
     ·have := rLink_le h; omega
     ·have := rDirF_le (rNode_le d) path _ _ _ _ h
      simp only [RS.add] at this
      omega
theorem goes_dir {d : Nat} (hN : NodeGoes d) (path : List UInt8) (k : List Job) (ab : Opens) (hab : ab.length + 1 + d = 6) : ∀ (f : Nat) (last p : List UInt8) (ρ : RS), ρ.rest.length < f →
 Goes (dirJob :: k) (ρ.par (ab ++ [(path, last)]) p) (rDirF (rNode d) path f last ρ) k ab
 | 0, _, _, ρ, h => absurd h (by omega)
 | f + 1, last, p, ρ, hf => by
   unfold rDirF
   refine goes_word fun x hx => ?_
   have lx := rWord_le hx
   simp only [doAct]
   split
   ·exact ⟨p, by simp [RS.par]⟩
   ·refine goes_plain fun x2 hx2 => goes_plain fun y hy => goes_next (j := .name) fun c hc => ?_
    have l2 := rWord_le hx2
    have l3 := rWord_le hy
    have l4 := rNext_le hc
    simp only [doJob, RS.par, List.getLastD_concat, List.dropLast_concat]
    by_cases hnm : nameB c.1 = false
    ·simp only [hnm, if_true, Bool.not_false]
     exact goes_error (by decide) rfl rfl rfl
    ·rw [if_neg hnm]
     have hnm2 : nameB c.1 = true := by simpa using hnm
     by_cases hle : leS c.1 last = true
     ·simp only [hnm2, hle, if_true, Bool.not_true, Bool.false_eq_true, if_false]
      exact goes_error (by decide) rfl rfl rfl
     ·simp only [hnm2, if_neg hle, Bool.not_true, Bool.false_eq_true, if_false]
      refine goes_plain (ρ := c.2) (ab := ab ++ [(path, c.1)]) (p := joinP path c.1) fun z hz => ?_
      have l5 := rWord_le hz
      have hnd := hN (joinP path c.1) (.word [wShut] .none :: dirJob :: k) z.2 (ab ++ [(path, c.1)]) (by simp; omega)
      cases hr : rNode d (joinP path c.1) z.2 with
      | error e => rw [hr] at hnd; exact hnd
      | ok ρ2 =>
        rw [hr] at hnd
        obtain ⟨p2, hnd⟩ := hnd
        have l6 := rNode_le _ _ _ _ hr
        refine Goes.of_eq hnd ?_
        refine goes_plain fun z2 hz2 => ?_
        have l7 := rWord_le hz2
        exact goes_dir hN path k ab hab f _ _ _ (by omega)
theorem node_goes : ∀ d : Nat, NodeGoes d
 | 0 => by
   intro path k ρ ab hab
   unfold rNode
   refine goes_word fun x hx => ?_
   simp only [doAct]
   rw [if_pos (by show 5 < ab.length; omega)]
   exact goes_error (by decide) rfl rfl rfl
 | d + 1 => by
   intro path k ρ ab hab
   unfold rNode
   refine goes_word fun x hx => ?_
   simp only [doAct]
   rw [if_neg (by show ¬ 5 < ab.length; omega)]
   by_cases h30 : x.2.nodes.length = 30
   ·rw [if_pos h30, if_pos (by exact h30)]
    exact goes_error (by decide) rfl rfl rfl
   ·rw [if_neg h30, if_neg (by exact h30)]
    refine goes_plain fun y hy => goes_word fun z hz => ?_
    have hmem := (rWord_ok hz).2
    simp only [doAct]
    by_cases h1 : z.1 = wFile
    ·rw [if_pos h1, if_pos h1]
     exact goes_file path k z.2 ab
    ·rw [if_neg h1, if_neg h1]
     by_cases h2 : z.1 = wLink
     ·rw [if_pos h2, if_pos h2]
      exact goes_link path k z.2 ab
     ·have h3 : z.1 = wDir := by
       simp only [List.mem_cons, List.not_mem_nil, or_false] at hmem
       rcases hmem with h | h | h
       ·exact absurd h h1
       ·exact absurd h h2
       ·exact h
      rw [if_neg h2, if_neg h2, if_pos h3]
      exact goes_dir (node_goes d) path k ab (by omega) _ [] path (z.2.add ⟨path, 4, []⟩) (by simp only [RS.add]; omega)
end
end Go.Proofs.YtdkogijdfgfpeaaGreatDoor
namespace Go.Proofs.YtdkogijdfgfpeaaGreatDoor
open Go Go.RowKit
def RS.clear (ρ : RS) : RS := { ρ with nodes := [] }
def rRefsF : Nat → CX → RS → RE (CX × RS)
 | 0, x, ρ => .ok (x, ρ)
 | f + 1, x, ρ => (rWord [wRef, wSum] ρ).bind fun y => if y.1 = wRef then (rNext 12 y.2).bind fun z => if refErr x z.1 ≠ 0 then .error (refErr x z.1, (y.2.at' : Int)) else rRefsF f { x with refs := x.refs ++ [z.1] } z.2 else .ok (x, y.2)
def CX.put (x : CX) (l : List Node) : CX := { x with came := setE x.came (x.ent l), order := x.order ++ [x.name] }
def CX.start (x : CX) (s : List UInt8) : CX := { x with name := s, refs := [] }
def rEntry (x : CX) (ρ : RS) : RE (CX × RS) :=
 (rNext 12 ρ).bind fun y => if pathErr x y.1 ≠ 0 then .error (pathErr x y.1, (ρ.at' : Int)) else
 (rWord [wNar] y.2.clear).bind fun z => (rNode 6 [] z.2).bind fun ρ1 => (rWord [wRefs] ρ1).bind fun v => (rRefsF (v.2.rest.length + 1) (x.start y.1) v.2).bind fun xr => (rNext 8 xr.2).bind fun t =>
   if entErr xr.1 t.2.nodes t.1 ≠ 0 then .error (entErr xr.1 t.2.nodes t.1, (xr.2.at' : Int)) else .ok (xr.1.put t.2.nodes, t.2)
def rImpF : Nat → CX → RS → RE (CX × RS)
 | 0, x, ρ => .ok (x, ρ)
 | f + 1, x, ρ => (rWord [wPath, wEnd] ρ).bind fun y => if y.1 = wPath then (rEntry x y.2).bind fun xr => rImpF f xr.1 xr.2 else .ok (x, y.2)
def startX (has : Ents) : CX := ⟨has, [], [], [], []⟩
def importL (has : Ents) (s : List UInt8) : RE CX :=
 (rWord [wExport] ⟨s, 0, []⟩).bind fun y => (rImpF (s.length + 1) (startX has) y.2).bind fun xr => if xr.2.rest = [] then .ok xr.1 else .error (10, (xr.2.at' : Int))
def GoesX (js : List Job) (σ : PSt) (r : RE (CX × RS)) (k : List Job) : Prop :=
 match r with
 | .error e => outcome js σ = .error e
 | .ok xr => ∃ ab p, outcome js σ = outcome k (xr.2.par ab p xr.1)
theorem GoesX.of_eq {js js' : List Job} {σ σ' : PSt} {r : RE (CX × RS)} {k : List Job} (he : outcome js σ = outcome js' σ') (h : GoesX js' σ' r k) : GoesX js σ r k := by
 cases r with
 | error e => exact he.trans h
 | ok ρ => obtain ⟨ab, p, h⟩ := h; exact ⟨ab, p, he.trans h⟩
theorem goesX_word {may : List (List UInt8)} {act : Act1} {js k : List Job} {ρ : RS} {ab : Opens} {p : List UInt8} {cx : CX} {f : List UInt8 × RS → RE (CX × RS)}
 (h : ∀ x, rWord may ρ = .ok x → GoesX ((doAct act x.1 (ρ.at' : Int) (x.2.par ab p cx)).1 ++ js) (doAct act x.1 (ρ.at' : Int) (x.2.par ab p cx)).2 (f x) k) :
 GoesX (.word may act :: js) (ρ.par ab p cx) ((rWord may ρ).bind f) k := by
 have ho := outcome_word (cx := cx) may act js ρ ab p
 cases hw : rWord may ρ with
 | error e => rw [hw] at ho; exact ho
 | ok x => rw [hw] at ho; exact (h x hw).of_eq ho
theorem goesX_next {j : Job} {js k : List Job} {ρ : RS} {ab : Opens} {p : List UInt8} {cx : CX} {f : List UInt8 × RS → RE (CX × RS)}
 (h : ∀ x, rNext j.most ρ = .ok x → GoesX ((doJob j x.1 (ρ.at' : Int) (x.2.par ab p cx)).1 ++ js) (doJob j x.1 (ρ.at' : Int) (x.2.par ab p cx)).2 (f x) k) :
 GoesX (j :: js) (ρ.par ab p cx) ((rNext j.most ρ).bind f) k := by
 have ho := outcome_next (cx := cx) j js ρ ab p
 cases hw : rNext j.most ρ with
 | error e => rw [hw] at ho; exact ho
 | ok x => rw [hw] at ho; exact (h x hw).of_eq ho
theorem goesX_error {js k : List Job} {σ : PSt} {e b : Int} (he : e ≠ 0) (h1 : σ.err = e) (h2 : σ.bad = b) (h3 : σ.rest = []) : GoesX js σ (.error (e, b)) k := by
 show outcome js σ = _
 rw [outcome_bad (by rw [h1]; exact he) (fun _ => h3), h1, h2]
theorem goesX_tree {js k : List Job} {σ : PSt} {r : RE RS} {k2 : List Job} {ab : Opens} {cx : CX} {f : RS → RE (CX × RS)} (h : Goes js σ r k2 ab cx) (hf : ∀ ρ, r = .ok ρ → ∀ p, GoesX k2 (ρ.par ab p cx) (f ρ) k) : GoesX js σ (r.bind f) k := by
 cases r with
 | error e => exact h
 | ok ρ =>
   obtain ⟨p, hp⟩ := h
   exact (hf ρ rfl p).of_eq hp
theorem goesX_bind {js k k2 : List Job} {σ : PSt} {r : RE (CX × RS)} {f : CX × RS → RE (CX × RS)} (h : GoesX js σ r k2) (hf : ∀ xr, r = .ok xr → ∀ ab p, GoesX k2 (xr.2.par ab p xr.1) (f xr) k) : GoesX js σ (r.bind f) k := by
 cases r with
 | error e => exact h
 | ok xr =>
   obtain ⟨ab, p, hp⟩ := h
   exact (hf xr rfl ab p).of_eq hp
theorem goesX_refs (k : List Job) : ∀ (f : Nat) (x : CX) (ρ : RS) (ab : Opens) (p : List UInt8), ρ.rest.length < f → GoesX (moreJob :: k) (ρ.par ab p x) (rRefsF f x ρ) (.csum :: nextJob :: k)
 | 0, x, ρ, ab, p, h => absurd h (by omega)
 | f + 1, x, ρ, ab, p, h => by
   unfold rRefsF
   refine goesX_word fun y hy => ?_
   have ly := rWord_le hy
   simp only [doAct]
   by_cases hr : y.1 = wRef
   ·rw [if_pos hr, if_pos hr]
    refine goesX_next (j := .cref) fun z hz => ?_
    have lz := rNext_le hz
    simp only [doJob, RS.par]
    by_cases he : refErr x z.1 ≠ 0
    ·rw [if_pos he]
     refine goesX_error he ?_ ?_ ?_ <;> simp [PSt.failIf, PSt.fail, he]
    ·rw [if_neg he]
     have e0 : refErr x z.1 = 0 := by simpa using he
     simp only [PSt.failIf, e0, if_true]
     exact goesX_refs k f _ z.2 ab p (by omega)
   ·rw [if_neg hr, if_neg hr]
    exact ⟨ab, p, rfl⟩
theorem rRefsF_le : ∀ (f : Nat) (x : CX) (ρ : RS) (xr : CX × RS), rRefsF f x ρ = .ok xr → xr.2.rest.length ≤ ρ.rest.length
 | 0, x, ρ, xr, h => by cases h; exact Nat.le_refl _
 | f + 1, x, ρ, xr, h => by
   unfold rRefsF at h
   obtain ⟨y, h1, h⟩ := bind_ok h
   have l1 := rWord_le h1
   split at h
   ·obtain ⟨z, h2, h⟩ := bind_ok h
    have l2 := rNext_le h2
    split at h
    ·cases h
    ·have := rRefsF_le f _ _ _ h
     omega
   ·cases h
    simp only
    omega
theorem rEntry_le {x : CX} {ρ : RS} {xr : CX × RS} (h : rEntry x ρ = .ok xr) : xr.2.rest.length + 8 ≤ ρ.rest.length := by
 unfold rEntry at h
 obtain ⟨y, h1, h⟩ := bind_ok h
 split at h
 ·cases h
 obtain ⟨z, h2, h⟩ := bind_ok h
 obtain ⟨ρ1, h3, h⟩ := bind_ok h
 obtain ⟨v, h4, h⟩ := bind_ok h
 obtain ⟨w, h5, h⟩ := bind_ok h
 obtain ⟨t, h6, h⟩ := bind_ok h
 split at h
 ·cases h
 cases h
 have l1 := rNext_le h1
 have l2 := rWord_le h2
 have l3 := rNode_le _ _ _ _ h3
 have l4 := rWord_le h4
 have l5 := rRefsF_le _ _ _ _ h5
 have l6 := rNext_le h6
 simp only [RS.clear] at l2
 simp only
 omega
theorem goesX_entry (k : List Job) (x : CX) (ρ : RS) (ab : Opens) (p : List UInt8) : GoesX (.cpath :: k) (ρ.par ab p x) (rEntry x ρ) (nextJob :: k) := by
 unfold rEntry
 refine goesX_next (j := .cpath) fun y hy => ?_
 simp only [doJob, RS.par]
 by_cases he : pathErr x y.1 ≠ 0
 ·rw [if_pos he]
  refine goesX_error he ?_ ?_ ?_ <;> simp [PSt.failIf, PSt.fail, he]
 ·rw [if_neg he]
  have e0 : pathErr x y.1 = 0 := by simpa using he
  simp only [PSt.failIf, e0, if_true]
  show GoesX (.word [wNar] .none :: (nodeJobs ++ [.word [wRefs] .none, moreJob] ++ k)) (y.2.clear.par [] [] (x.start y.1)) _ _
  refine goesX_word fun z hz => ?_
  have hg := node_goes (cx := x.start y.1) 6 [] ([.word [wRefs] .none, moreJob] ++ k) z.2 [] rfl
  rw [← List.append_assoc] at hg
  refine goesX_tree hg fun ρ1 hρ1 p1 => ?_
  refine goesX_word fun v hv => ?_
  refine goesX_bind (goesX_refs k (v.2.rest.length + 1) (x.start y.1) v.2 [] p1 (by omega)) fun xr hxr ab2 p2 => ?_
  refine goesX_next (j := .csum) fun t ht => ?_
  simp only [doJob, RS.par]
  by_cases he2 : entErr xr.1 t.2.nodes t.1 ≠ 0
  ·rw [if_pos he2]
   refine goesX_error he2 ?_ ?_ ?_ <;> simp [PSt.failIf, PSt.fail, he2]
  ·rw [if_neg he2]
   have e2 : entErr xr.1 t.2.nodes t.1 = 0 := by simpa using he2
   simp only [PSt.failIf, e2, if_true]
   exact ⟨ab2, p2, rfl⟩
theorem goesX_imp (k : List Job) : ∀ (f : Nat) (x : CX) (ρ : RS) (ab : Opens) (p : List UInt8), ρ.rest.length < f → GoesX (nextJob :: k) (ρ.par ab p x) (rImpF f x ρ) k
 | 0, x, ρ, ab, p, h => absurd h (by omega)
 | f + 1, x, ρ, ab, p, h => by
   unfold rImpF
   refine goesX_word fun y hy => ?_
   have ly := rWord_le hy
   simp only [doAct]
   by_cases hr : y.1 = wPath
   ·rw [if_pos hr, if_pos hr]
    refine goesX_bind (goesX_entry k x y.2 ab p) fun xr hxr ab2 p2 => ?_
    have lx := rEntry_le hxr
    exact goesX_imp k f xr.1 xr.2 ab2 p2 (by omega)
   ·rw [if_neg hr, if_neg hr]
    exact ⟨ab, p, rfl⟩
def importJobs : List Job := [.word [wExport] .none, nextJob]
def freshX (has : Ents) : PSt := ⟨[], 0, 0, 0, [], [], [], startX has⟩
def toldX (r : RE (List Node × CX)) : RE CX := r.bind fun y => .ok y.2
theorem outcome_import (has : Ents) (s : List UInt8) : toldX (outcome importJobs ((freshX has).feed s)) = importL has s := by
 have h : GoesX importJobs ((⟨s, 0, []⟩ : RS).par [] [] (startX has)) ((rWord [wExport] ⟨s, 0, []⟩).bind fun y => rImpF (s.length + 1) (startX has) y.2) [] := goesX_word fun y hy => by
  have l := rWord_le hy
  exact goesX_imp [] (s.length + 1) (startX has) y.2 [] [] (by simp only at l; omega)
 have e : (freshX has).feed s = (⟨s, 0, []⟩ : RS).par [] [] (startX has) := rfl
 have e2 : importL has s = ((rWord [wExport] ⟨s, 0, []⟩).bind fun y => rImpF (s.length + 1) (startX has) y.2).bind fun xr => if xr.2.rest = [] then .ok xr.1 else .error (10, (xr.2.at' : Int)) := by
  unfold importL
  cases rWord [wExport] ⟨s, 0, []⟩ <;> rfl
 rw [e, e2]
 generalize ((rWord [wExport] ⟨s, 0, []⟩).bind fun y => rImpF (s.length + 1) (startX has) y.2) = r at *
 cases r with
 | error x =>
   have h' : outcome _ _ = .error x := h
   rw [h']
   rfl
 | ok xr =>
   obtain ⟨ab, p, h⟩ := h
   rw [h, outcome, run_nil]
   by_cases hz : xr.2.rest = []
   ·rw [if_pos (by exact hz)]
    show toldX (told (xr.2.par ab p xr.1)) = if xr.2.rest = [] then _ else _
    rw [if_pos hz]; rfl
   ·rw [if_neg (by exact hz)]
    show _ = if xr.2.rest = [] then _ else _
    rw [if_neg hz]; rfl
theorem steps_import (has : Ents) (ps : List (List UInt8)) : toldX (told (finish (steps ps (importJobs, freshX has)))) = importL has ps.flatten := by
 have h0 : run importJobs (freshX has) = (importJobs, freshX has) := run_stop (by rw [PSt.next, if_pos (.inr (by show 0 < 8; decide))])
 have := steps_run ps importJobs (freshX has) (fun h => absurd rfl h)
 rw [h0] at this
 rw [this]
 exact outcome_import has _
end Go.Proofs.YtdkogijdfgfpeaaGreatDoor
namespace Go.Proofs.YtdkogijdfgfpeaaGreatDoor
open Go Go.RowKit Go.WideShapes Go.ChangeShapes Go.ChangeAt
section
variable {H : Type} {enc : TypeId × Value → H} {P : Program}
theorem below_same {B : Nat} {w w' : World} (h : Below B w w') {p : MemPlace} (hp : p.block < B) : w.sameAt w' p := by
 cases p with
 | cell b o => exact h.cell (p := ⟨b, o, none⟩) hp
 | map b => exact h.block b hp
theorem trodAll_stays (hl : laidOutB P = true) {W W' : World} {sp : Nat → Bool} : ∀ (ts : List TypeId) (vs : List Value) (ds : List (DataW H)) (ps : List MemPlace),
 DataW.TrodAll enc P W 0 (fun _ => true) true ts vs ds ps → (∀ t ∈ ts, P.readableRec t = true ∧ t < P.types.size) → (∀ p ∈ ps, W.sameAt W' p) → (∀ p ∈ ps, sp p.block = true) → DataW.TrodAll enc P W' 0 sp true ts vs ds ps
 | [], vs, ds, ps, h, _, _, _ => by
   obtain ⟨rfl, rfl, rfl⟩ := trodAll_nil h
   exact trodAll_mk0
 | t :: ts, vs, ds, ps, h, ht, hs, hp => by
   obtain ⟨v, vs', d, ds', p, q, rfl, rfl, rfl, h1, h2⟩ := trodAll_cons h
   obtain ⟨hr, hz⟩ := ht t (List.mem_cons_self ..)
   exact trodAll_cons_mk (WideElems.Trod_stays hl hr hz h1 (fun x hx => hs x (List.mem_append_left _ hx)) (fun x hx => hp x (List.mem_append_left _ hx)))
    (trodAll_stays hl ts vs' ds' q h2 (fun t' h' => ht t' (List.mem_cons_of_mem _ h')) (fun x hx => hs x (List.mem_append_right _ hx)) (fun x hx => hp x (List.mem_append_right _ hx)))
theorem post_law {f : Func} {s : ChangeSpec} {apart fresh handsOn : Bool} {W W' : World} {args : Array Value} {ds gs : List (DataW H)} {before : List MemPlace} (t4 : TypeId)
 (hl : laidOutB P = true) (ht : ∀ t ∈ f.params.toList, P.readableRec t = true ∧ t < P.types.size) (hv : s.vars = []) (hr : f.resultTypes = #[t4]) (h4 : P.underlying t4 = some .bool)
 (hW : DataW.Whole enc P f.params.toList s.vars apart W args.toList ds gs before) (hfn : (s.fn H (ds ++ gs)).results = [.lit (.bool true)] ∧ (s.fn H (ds ++ gs)).args = ds ∧ (s.fn H (ds ++ gs)).vars = [])
 (hb : Below W.heap.size W W') : s.post enc P f apart fresh handsOn false W args (.bool true) W' := by
 have hlt : ∀ p ∈ before, p.block < W.heap.size := fun p hp => hW.lt p hp
 obtain ⟨p, q, hA, hV, rfl, -, -⟩ := id hW
 rw [hv] at hV
 obtain ⟨rfl, rfl⟩ := trodVars_none hV
 refine ⟨ds, [], p ++ [], [], p, [], hW, ?_, ?_, ?_, World.keptBut_mono (fun x hx => ⟨hx, .inr (.inl (by simpa using hx))⟩) (hb.frame (· ∈ p ++ [])), fun h => by cases h⟩
 ·rw [hfn.1, hr]
  exact trodAll_mk1 (shut_bool h4 _)
 ·rw [hfn.2.1]
  exact trodAll_stays hl _ _ _ _ hA ht (fun x hx => below_same hb (hlt x (by simpa using hx))) (fun x hx => by simpa using hlt x (by simpa using hx))
 ·rw [hv, hfn.2.2]; rfl
end
theorem Src.ofRd {P : Program} {w : World} {size : Nat} {tx E : TypeId} {v : Value} {n : Nat} {xs : List Value} (hk : P.underlying tx = some (.slice E)) (h : Rd w size v n xs) (h1 : ∀ u ∈ xs, u.oneCell' = true) : Src P size tx v n xs w := by
 obtain ⟨hl, ⟨a, cap, rfl, rfl, h3⟩ | ⟨b, off, cap, rfl, h2, h3, h4, h5⟩⟩ := h
 ·obtain rfl : xs = [] := List.eq_nil_of_length_eq_zero (by simpa using hl)
  cases a with
  | none => exact Src.ofNil w hk _
  | some a => exact Src.ofSlice w hk a 0 cap [] (by simp) (fun j u hj => by simp at hj) h1
 ·exact Src.ofSlice w hk ⟨b, off, none⟩ n cap xs hl (fun j u hj => by
   rw [Addr.add_lit, h5 j (by rw [← hl]; exact (List.getElem?_eq_some_iff.1 hj).1)]; exact hj) h1
instance : Inhabited Node := ⟨⟨[], 0, []⟩⟩
section
variable {H : Type} {enc : TypeId × Value → H}
end
end Go.Proofs.YtdkogijdfgfpeaaGreatDoor
