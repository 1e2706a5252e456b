/- Plain: the document's reader, and that the parser tells the same of the whole bytes. -/
import Derived.Test.YtflkafnhhadphaaDoorChecked
import Derived.Test.YtflkafnhhadphaaDoorRun
namespace Go.Proofs.YtflkafnhhadphaaDoor
open Go Go.RowKit
set_option linter.unusedVariables false

/-- where a reader stands that has met no error -/
structure RS where
  rest : List UInt8
  at' : Nat
  nodes : List Node
abbrev RE (α : Type) := Except (Int × Int) α
def RS.skip (ρ : RS) (k : Nat) : RS := { ρ with rest := ρ.rest.drop k, at' := ρ.at' + k }
def RS.add (ρ : RS) (n : Node) : RS := { ρ with nodes := ρ.nodes ++ [n] }
def RS.few (ρ : RS) : Int × Int := (2, (ρ.at' : Int) + (ρ.rest.length : Int))
def rNext (most : Nat) (ρ : RS) : RE (List UInt8 × RS) :=
  if ρ.rest.length < 8 then .error ρ.few
  else if most < num64 (ρ.rest.take 8) then .error (3, (ρ.at' : Int))
  else if ρ.rest.length < 8 + num64 (ρ.rest.take 8) + padN (num64 (ρ.rest.take 8)) then .error ρ.few
  else if ((ρ.rest.drop (8 + num64 (ρ.rest.take 8))).take (padN (num64 (ρ.rest.take 8)))).any (· != 0) then .error (4, (ρ.at' : Int))
  else .ok ((ρ.rest.drop 8).take (num64 (ρ.rest.take 8)), ρ.skip (8 + num64 (ρ.rest.take 8) + padN (num64 (ρ.rest.take 8))))
def rWord (may : List (List UInt8)) (ρ : RS) : RE (List UInt8 × RS) :=
  (rNext 8 ρ).bind fun x => if x.1 ∈ may then .ok x else .error (5, (ρ.at' : Int))
def rFile (path : List UInt8) (ρ : RS) : RE RS :=
  (rWord [wExec, wData] ρ).bind fun x =>
    if x.1 = wExec then
      (rWord [[]] x.2).bind fun x => (rWord [wData] x.2).bind fun x => (rNext 100 x.2).bind fun x => (rWord [wShut] (x.2.add ⟨path, 2, x.1⟩)).bind fun x => .ok x.2
    else (rNext 100 x.2).bind fun x => (rWord [wShut] (x.2.add ⟨path, 1, x.1⟩)).bind fun x => .ok x.2
def rLink (path : List UInt8) (ρ : RS) : RE RS :=
  (rWord [wTo] ρ).bind fun y => (rNext 100 y.2).bind fun x => if dataB 3 x.1 then (rWord [wShut] (x.2.add ⟨path, 3, x.1⟩)).bind fun x => .ok x.2 else .error (6, (y.2.at' : Int))
/-- the names of a directory, up to its end -/
def rDirF (node : List UInt8 → RS → RE RS) (path : List UInt8) : Nat → List UInt8 → RS → RE RS
  | 0, _, ρ => .ok ρ
  | f + 1, last, ρ => (rWord [wEntry, wShut] ρ).bind fun x =>
    if x.1 = wShut then .ok x.2 else
    (rWord [wOpen] x.2).bind fun x => (rWord [wName] x.2).bind fun y => (rNext 48 y.2).bind fun x =>
      if nameB x.1 = false then .error (6, (y.2.at' : Int)) else if leS x.1 last then .error (7, (y.2.at' : Int)) else
      (rWord [wNode] x.2).bind fun z => (node (joinP path x.1) z.2).bind fun ρ => (rWord [wShut] ρ).bind fun z => rDirF node path f x.1 z.2
def rNode : Nat → List UInt8 → RS → RE RS
  | 0, _, ρ => (rWord [wOpen] ρ).bind fun _ => .error (8, (ρ.at' : Int))
  | d + 1, path, ρ => (rWord [wOpen] ρ).bind fun x => if x.2.nodes.length = 30 then .error (9, (ρ.at' : Int)) else
    (rWord [wType] x.2).bind fun x => (rWord [wFile, wLink, wDir] x.2).bind fun x =>
      if x.1 = wFile then rFile path x.2 else if x.1 = wLink then rLink path x.2 else rDirF (rNode d) path (x.2.rest.length + 1) [] (x.2.add ⟨path, 4, []⟩)
def rTree (s : List UInt8) : RE RS := (rWord [wNar] ⟨s, 0, []⟩).bind fun x => rNode 6 [] x.2
/-- the tree of bytes, or what is wrong first, and where -/
def readL (s : List UInt8) : List Node × Int × Int :=
  match rTree s with
  | .error e => ([], e)
  | .ok ρ => if ρ.rest = [] then (ρ.nodes, 0, 0) else ([], 10, (ρ.at' : Int))

/- the parser's answer -/
def finish (r : List Job × PSt) : PSt := if r.1 = [] then r.2 else r.2.fail 2 ((r.2.at' : Int) + (r.2.rest.length : Int))
def told (σ : PSt) : List Node × Int × Int := if σ.err = 0 then (σ.nodes, 0, 0) else ([], σ.err, σ.bad)
def outcome (js : List Job) (σ : PSt) : List Node × Int × Int := told (finish (run js σ))
def RS.par (ρ : RS) (ab : Opens) (p : List UInt8) : PSt := ⟨ρ.rest, ρ.at', 0, 0, ρ.nodes, ab, p⟩
theorem outcome_bad {σ : PSt} (h : σ.err ≠ 0) (hd : σ.Dry) (js : List Job) : outcome js σ = ([], σ.err, σ.bad) := by
  rw [outcome, run_bad h hd, finish]
  simp only [PSt.fail_bad h, ite_self]
  rw [told, if_neg h]
/-- a string more -/
theorem outcome_next (j : Job) (js : List Job) (ρ : RS) (ab : Opens) (p : List UInt8) :
    outcome (j :: js) (ρ.par ab p) = match rNext j.most ρ with
      | .error e => ([], e)
      | .ok x => outcome ((doJob j x.1 (ρ.at' : Int) (x.2.par ab p)).1 ++ js) (doJob j x.1 (ρ.at' : Int) (x.2.par ab p)).2 := by
  have hbad : ∀ e : Int, e ≠ 0 → ((ρ.par ab p).next j.most = (.none, (ρ.par ab p).fail e ρ.at')) → outcome (j :: js) (ρ.par ab p) = ([], e, (ρ.at' : Int)) := by
    intro e he h
    rw [outcome, run_stop h, finish, if_neg (by simp), PSt.fail_ok (σ := ρ.par ab p) rfl, PSt.fail_bad (by exact he), told, if_neg (by exact he)]
  have hfew : ((ρ.par ab p).next j.most = (.none, ρ.par ab p)) → outcome (j :: js) (ρ.par ab p) = ([], ρ.few) := by
    intro h
    rw [outcome, run_stop h, finish, if_neg (by simp), PSt.fail_ok (σ := ρ.par ab p) rfl, told, if_neg (by show (2:Int) ≠ 0; decide)]
    rfl
  unfold rNext
  by_cases h8 : ρ.rest.length < 8
  · rw [if_pos h8]
    exact hfew (by rw [PSt.next, if_pos (.inr h8)])
  rw [if_neg h8]
  have hne : ¬ ((ρ.par ab p).err ≠ 0 ∨ (ρ.par ab p).rest.length < 8) := by
    rintro (h | h)
    · exact h rfl
    · exact h8 h
  by_cases hm : j.most < num64 (ρ.rest.take 8)
  · rw [if_pos hm]
    exact hbad 3 (by decide) (by rw [PSt.next, if_neg hne]; exact if_pos hm)
  rw [if_neg hm]
  by_cases hf : ρ.rest.length < 8 + num64 (ρ.rest.take 8) + padN (num64 (ρ.rest.take 8))
  · rw [if_pos hf]
    exact hfew (by rw [PSt.next, if_neg hne]; exact (if_neg hm).trans (if_pos hf))
  rw [if_neg hf]
  by_cases hp : ((ρ.rest.drop (8 + num64 (ρ.rest.take 8))).take (padN (num64 (ρ.rest.take 8)))).any (· != 0) = true
  · rw [if_pos hp]
    exact hbad 4 (by decide) (by rw [PSt.next, if_neg hne]; exact (if_neg hm).trans ((if_neg hf).trans (if_pos hp)))
  rw [if_neg hp]
  have h : (ρ.par ab p).next j.most = (.some ((ρ.rest.drop 8).take (num64 (ρ.rest.take 8))), { (ρ.par ab p) with rest := (ρ.par ab p).rest.drop (8 + num64 (ρ.rest.take 8) + padN (num64 (ρ.rest.take 8))), at' := (ρ.par ab p).at' + (8 + num64 (ρ.rest.take 8) + padN (num64 (ρ.rest.take 8))) }) := by
    rw [PSt.next, if_neg hne]; exact (if_neg hm).trans ((if_neg hf).trans (if_neg hp))
  rw [outcome, run_got (by omega) (by show _ ≤ ρ.rest.length; omega) h]
  rfl
theorem outcome_word (may : List (List UInt8)) (act : Act1) (js : List Job) (ρ : RS) (ab : Opens) (p : List UInt8) :
    outcome (.word may act :: js) (ρ.par ab p) = match rWord may ρ with
      | .error e => ([], e)
      | .ok x => outcome ((doAct act x.1 (ρ.at' : Int) (x.2.par ab p)).1 ++ js) (doAct act x.1 (ρ.at' : Int) (x.2.par ab p)).2 := by
  rw [outcome_next, rWord]
  show (match rNext 8 ρ with | .error e => _ | .ok x => _) = _
  cases h : rNext 8 ρ with
  | error e => rfl
  | ok x =>
    simp only [Except.bind, doJob]
    by_cases hm : x.1 ∈ may
    · simp only [if_pos hm]
    · simp only [if_neg hm]
      rw [outcome_bad (by show (5:Int) ≠ 0; decide) (fun _ => rfl)]
      rfl
theorem outcome_plain (may : List (List UInt8)) (js : List Job) (ρ : RS) (ab : Opens) (p : List UInt8) :
    outcome (.word may .none :: js) (ρ.par ab p) = match rWord may ρ with
      | .error e => ([], e)
      | .ok x => outcome js (x.2.par ab p) := by
  rw [outcome_word]
  rfl
/-- what it tells is what the reader reads, and then goes on -/
def Goes (js : List Job) (σ : PSt) (r : RE RS) (k : List Job) (ab : Opens) : Prop :=
  match r with
  | .error e => outcome js σ = ([], e)
  | .ok ρ => ∃ p, outcome js σ = outcome k (ρ.par ab p)
theorem Goes.of_eq {js js' : List Job} {σ σ' : PSt} {r : RE RS} {k : List Job} {ab : Opens} (he : outcome js σ = outcome js' σ') (h : Goes js' σ' r k ab) : Goes js σ r k ab := by
  cases r with
  | error e => exact he.trans h
  | ok ρ => obtain ⟨p, h⟩ := h; exact ⟨p, he.trans h⟩
theorem goes_word {may : List (List UInt8)} {act : Act1} {js k : List Job} {ρ : RS} {ab ab' : Opens} {p : List UInt8} {f : List UInt8 × RS → RE RS}
    (h : ∀ x, rWord may ρ = .ok x → Goes ((doAct act x.1 (ρ.at' : Int) (x.2.par ab p)).1 ++ js) (doAct act x.1 (ρ.at' : Int) (x.2.par ab p)).2 (f x) k ab') :
    Goes (.word may act :: js) (ρ.par ab p) ((rWord may ρ).bind f) k ab' := by
  have ho := outcome_word may act js ρ ab p
  cases hw : rWord may ρ with
  | error e => rw [hw] at ho; exact ho
  | ok x => rw [hw] at ho; exact (h x hw).of_eq ho
theorem goes_plain {may : List (List UInt8)} {js k : List Job} {ρ : RS} {ab ab' : Opens} {p : List UInt8} {f : List UInt8 × RS → RE RS}
    (h : ∀ x, rWord may ρ = .ok x → Goes js (x.2.par ab p) (f x) k ab') :
    Goes (.word may .none :: js) (ρ.par ab p) ((rWord may ρ).bind f) k ab' := goes_word h
theorem goes_next {j : Job} {js k : List Job} {ρ : RS} {ab ab' : Opens} {p : List UInt8} {f : List UInt8 × RS → RE RS}
    (h : ∀ x, rNext j.most ρ = .ok x → Goes ((doJob j x.1 (ρ.at' : Int) (x.2.par ab p)).1 ++ js) (doJob j x.1 (ρ.at' : Int) (x.2.par ab p)).2 (f x) k ab') :
    Goes (j :: js) (ρ.par ab p) ((rNext j.most ρ).bind f) k ab' := by
  have ho := outcome_next j js ρ ab p
  cases hw : rNext j.most ρ with
  | error e => rw [hw] at ho; exact ho
  | ok x => rw [hw] at ho; exact (h x hw).of_eq ho
theorem goes_last {may : List (List UInt8)} {k : List Job} {ρ : RS} {ab : Opens} {p : List UInt8} : Goes (.word may .none :: k) (ρ.par ab p) ((rWord may ρ).bind fun x => .ok x.2) k ab :=
  goes_plain fun x _ => ⟨p, rfl⟩
theorem goes_error {js k : List Job} {σ : PSt} {ab : Opens} {e b : Int} (he : e ≠ 0) (h1 : σ.err = e) (h2 : σ.bad = b) (h3 : σ.rest = []) : Goes js σ (.error (e, b)) k ab := by
  show outcome js σ = _
  rw [outcome_bad (by rw [h1]; exact he) (fun _ => h3), h1, h2]
/-- a string that was read is shorter than what was there -/
theorem rNext_ok {most : Nat} {ρ : RS} {x : List UInt8 × RS} (h : rNext most ρ = .ok x) : ∃ k, 8 ≤ k ∧ k ≤ ρ.rest.length ∧ x.2 = ρ.skip k ∧ x.1.length ≤ most ∧ x.1.length + 8 ≤ k := by
  unfold rNext at h
  split at h
  · cases h
  · split at h
    · cases h
    · split at h
      · cases h
      · split at h
        · cases h
        · cases h
          exact ⟨_, by omega, by omega, rfl, by rw [List.length_take]; omega, by rw [List.length_take]; omega⟩
theorem rWord_ok {may : List (List UInt8)} {ρ : RS} {x : List UInt8 × RS} (h : rWord may ρ = .ok x) : rNext 8 ρ = .ok x ∧ x.1 ∈ may := by
  unfold rWord at h
  cases hn : rNext 8 ρ with
  | error e => rw [hn] at h; cases h
  | ok y =>
    rw [hn] at h
    simp only [Except.bind] at h
    split at h
    · cases h
      exact ⟨rfl, by assumption⟩
    · cases h
theorem goes_file (path : List UInt8) (k : List Job) (ρ : RS) (ab : Opens) : Goes (.word [wExec, wData] .file :: k) (ρ.par ab path) (rFile path ρ) k ab := by
  refine goes_word fun x hx => ?_
  simp only [doAct]
  split
  · exact goes_plain fun x _ => goes_plain fun x _ => goes_next (j := .keep 2) fun x _ => goes_last (ρ := x.2.add ⟨path, 2, x.1⟩)
  · exact goes_next (j := .keep 1) fun x _ => goes_last (ρ := x.2.add ⟨path, 1, x.1⟩)
theorem goes_link (path : List UInt8) (k : List Job) (ρ : RS) (ab : Opens) : Goes (.word [wTo] .none :: .leads :: .word [wShut] .none :: k) (ρ.par ab path) (rLink path ρ) k ab := by
  refine goes_plain fun y hy => goes_next (j := .leads) fun x hx => ?_
  by_cases hd : dataB 3 x.1 = true
  · simp only [doJob, hd, if_true]
    exact goes_last (ρ := x.2.add ⟨path, 3, x.1⟩)
  · simp only [doJob, if_neg hd]
    exact goes_error (by decide) rfl rfl rfl
/-- a node at so many directories -/
def NodeGoes (d : Nat) : Prop := ∀ (path : List UInt8) (k : List Job) (ρ : RS) (ab : Opens), ab.length + d = 6 → Goes (nodeJobs ++ k) (ρ.par ab path) (rNode d path ρ) k ab
/-- reading makes the rest no longer -/
theorem rNext_le {most : Nat} {ρ : RS} {x : List UInt8 × RS} (h : rNext most ρ = .ok x) : x.2.rest.length + 8 ≤ ρ.rest.length := by
  obtain ⟨k, h1, h2, h3, -⟩ := rNext_ok h
  rw [h3]
  simp only [RS.skip, List.length_drop]
  omega
theorem rWord_le {may : List (List UInt8)} {ρ : RS} {x : List UInt8 × RS} (h : rWord may ρ = .ok x) : x.2.rest.length + 8 ≤ ρ.rest.length := rNext_le (rWord_ok h).1
theorem bind_ok {α β : Type} {r : RE α} {f : α → RE β} {y : β} (h : r.bind f = .ok y) : ∃ x, r = .ok x ∧ f x = .ok y := by
  cases r with
  | error e => cases h
  | ok x => exact ⟨x, rfl, h⟩
theorem rFile_le {path : List UInt8} {ρ ρ' : RS} (h : rFile path ρ = .ok ρ') : ρ'.rest.length ≤ ρ.rest.length := by
  unfold rFile at h
  obtain ⟨x, h1, h⟩ := bind_ok h
  have l1 := rWord_le h1
  split at h
  · obtain ⟨a, h2, h⟩ := bind_ok h
    obtain ⟨b, h3, h⟩ := bind_ok h
    obtain ⟨c, h4, h⟩ := bind_ok h
    obtain ⟨d, h5, h⟩ := bind_ok h
    cases h
    have l2 := rWord_le h2
    have l3 := rWord_le h3
    have l4 := rNext_le h4
    have l5 := rWord_le h5
    simp only [RS.add] at l5
    omega
  · obtain ⟨c, h4, h⟩ := bind_ok h
    obtain ⟨d, h5, h⟩ := bind_ok h
    cases h
    have l4 := rNext_le h4
    have l5 := rWord_le h5
    simp only [RS.add] at l5
    omega
theorem rLink_le {path : List UInt8} {ρ ρ' : RS} (h : rLink path ρ = .ok ρ') : ρ'.rest.length ≤ ρ.rest.length := by
  unfold rLink at h
  obtain ⟨x, h1, h⟩ := bind_ok h
  obtain ⟨y, h2, h⟩ := bind_ok h
  have l1 := rWord_le h1
  have l2 := rNext_le h2
  split at h
  · obtain ⟨d, h5, h⟩ := bind_ok h
    cases h
    have l5 := rWord_le h5
    simp only [RS.add] at l5
    omega
  · cases h
theorem rDirF_le {node : List UInt8 → RS → RE RS} (hn : ∀ p ρ ρ', node p ρ = .ok ρ' → ρ'.rest.length ≤ ρ.rest.length) (path : List UInt8) : ∀ (f : Nat) (last : List UInt8) (ρ ρ' : RS), rDirF node path f last ρ = .ok ρ' → ρ'.rest.length ≤ ρ.rest.length
  | 0, _, ρ, ρ', h => by cases h; exact Nat.le_refl _
  | f + 1, last, ρ, ρ', h => by
    unfold rDirF at h
    obtain ⟨x, h1, h⟩ := bind_ok h
    have l1 := rWord_le h1
    split at h
    · cases h; omega
    · obtain ⟨a, h2, h⟩ := bind_ok h
      obtain ⟨b, h3, h⟩ := bind_ok h
      obtain ⟨c, h4, h⟩ := bind_ok h
      have l2 := rWord_le h2
      have l3 := rWord_le h3
      have l4 := rNext_le h4
      split at h
      · cases h
      · split at h
        · cases h
        · obtain ⟨d, h5, h⟩ := bind_ok h
          obtain ⟨e, h6, h⟩ := bind_ok h
          obtain ⟨g, h7, h⟩ := bind_ok h
          have l5 := rWord_le h5
          have l6 := hn _ _ _ h6
          have l7 := rWord_le h7
          have := rDirF_le hn path f _ _ _ h
          omega
theorem rNode_le : ∀ (d : Nat) (path : List UInt8) (ρ ρ' : RS), rNode d path ρ = .ok ρ' → ρ'.rest.length ≤ ρ.rest.length
  | 0, path, ρ, ρ', h => by
    unfold rNode at h
    obtain ⟨x, h1, h⟩ := bind_ok h
    cases h
  | d + 1, path, ρ, ρ', h => by
    unfold rNode at h
    obtain ⟨x, h1, h⟩ := bind_ok h
    have l1 := rWord_le h1
    split at h
    · cases h
    · obtain ⟨y, h2, h⟩ := bind_ok h
      obtain ⟨z, h3, h⟩ := bind_ok h
      have l2 := rWord_le h2
      have l3 := rWord_le h3
      split at h
      · have := rFile_le h; omega
      · split at h
        · have := rLink_le h; omega
        · have := rDirF_le (rNode_le d) path _ _ _ _ h
          simp only [RS.add] at this
          omega
theorem goes_dir {d : Nat} (hN : NodeGoes d) (path : List UInt8) (k : List Job) (ab : Opens) (hab : ab.length + 1 + d = 6) : ∀ (f : Nat) (last p : List UInt8) (ρ : RS), ρ.rest.length < f →
    Goes (dirJob :: k) (ρ.par (ab ++ [(path, last)]) p) (rDirF (rNode d) path f last ρ) k ab
  | 0, _, _, ρ, h => absurd h (by omega)
  | f + 1, last, p, ρ, hf => by
    unfold rDirF
    refine goes_word fun x hx => ?_
    have lx := rWord_le hx
    simp only [doAct]
    split
    · exact ⟨p, by simp [RS.par]⟩
    · refine goes_plain fun x2 hx2 => goes_plain fun y hy => goes_next (j := .name) fun c hc => ?_
      have l2 := rWord_le hx2
      have l3 := rWord_le hy
      have l4 := rNext_le hc
      simp only [doJob, RS.par, List.getLastD_concat, List.dropLast_concat]
      by_cases hnm : nameB c.1 = false
      · simp only [hnm, if_true, Bool.not_false]
        exact goes_error (by decide) rfl rfl rfl
      · rw [if_neg hnm]
        have hnm2 : nameB c.1 = true := by simpa using hnm
        by_cases hle : leS c.1 last = true
        · simp only [hnm2, hle, if_true, Bool.not_true, Bool.false_eq_true, if_false]
          exact goes_error (by decide) rfl rfl rfl
        · simp only [hnm2, if_neg hle, Bool.not_true, Bool.false_eq_true, if_false]
          refine goes_plain (ρ := c.2) (ab := ab ++ [(path, c.1)]) (p := joinP path c.1) fun z hz => ?_
          have l5 := rWord_le hz
          have hnd := hN (joinP path c.1) (.word [wShut] .none :: dirJob :: k) z.2 (ab ++ [(path, c.1)]) (by simp; omega)
          cases hr : rNode d (joinP path c.1) z.2 with
          | error e => rw [hr] at hnd; exact hnd
          | ok ρ2 =>
            rw [hr] at hnd
            obtain ⟨p2, hnd⟩ := hnd
            have l6 := rNode_le _ _ _ _ hr
            refine Goes.of_eq hnd ?_
            refine goes_plain fun z2 hz2 => ?_
            have l7 := rWord_le hz2
            exact goes_dir hN path k ab hab f _ _ _ (by omega)
theorem node_goes : ∀ d : Nat, NodeGoes d
  | 0 => by
    intro path k ρ ab hab
    unfold rNode
    refine goes_word fun x hx => ?_
    simp only [doAct]
    rw [if_pos (by show 5 < ab.length; omega)]
    exact goes_error (by decide) rfl rfl rfl
  | d + 1 => by
    intro path k ρ ab hab
    unfold rNode
    refine goes_word fun x hx => ?_
    simp only [doAct]
    rw [if_neg (by show ¬ 5 < ab.length; omega)]
    by_cases h30 : x.2.nodes.length = 30
    · rw [if_pos h30, if_pos (by exact h30)]
      exact goes_error (by decide) rfl rfl rfl
    · rw [if_neg h30, if_neg (by exact h30)]
      refine goes_plain fun y hy => goes_word fun z hz => ?_
      have hmem := (rWord_ok hz).2
      simp only [doAct]
      by_cases h1 : z.1 = wFile
      · rw [if_pos h1, if_pos h1]
        exact goes_file path k z.2 ab
      · rw [if_neg h1, if_neg h1]
        by_cases h2 : z.1 = wLink
        · rw [if_pos h2, if_pos h2]
          exact goes_link path k z.2 ab
        · have h3 : z.1 = wDir := by
            simp only [List.mem_cons, List.not_mem_nil, or_false] at hmem
            rcases hmem with h | h | h
            · exact absurd h h1
            · exact absurd h h2
            · exact h
          rw [if_neg h2, if_neg h2, if_pos h3]
          exact goes_dir (node_goes d) path k ab (by omega) _ [] path (z.2.add ⟨path, 4, []⟩) (by simp only [RS.add]; omega)
/-- the strings of a tree -/
def treeJobs : List Job := .word [wNar] .none :: nodeJobs
def fresh : PSt := ⟨[], 0, 0, 0, [], [], []⟩
theorem outcome_read (s : List UInt8) : outcome treeJobs (fresh.feed s) = readL s := by
  have h : Goes treeJobs ((⟨s, 0, []⟩ : RS).par [] []) (rTree s) [] [] := goes_plain fun x _ => by
    have := node_goes 6 [] [] x.2 [] rfl
    rwa [List.append_nil] at this
  have e : fresh.feed s = (⟨s, 0, []⟩ : RS).par [] [] := rfl
  rw [e, readL]
  cases hr : rTree s with
  | error x => rw [hr] at h; exact h
  | ok ρ =>
    rw [hr] at h
    obtain ⟨p, h⟩ := h
    rw [h]
    simp only
    rw [outcome, run_nil]
    by_cases hz : ρ.rest = []
    · rw [if_pos hz, if_pos (by exact hz)]; rfl
    · rw [if_neg hz, if_neg (by exact hz)]; rfl
/-- pieces -/
theorem steps_read (ps : List (List UInt8)) : told (finish (steps ps (treeJobs, fresh))) = readL ps.flatten := by
  have h0 : run treeJobs fresh = (treeJobs, fresh) := run_stop (by rw [PSt.next, if_pos (.inr (by decide))])
  have := steps_run ps treeJobs fresh (fun h => absurd rfl h)
  rw [h0] at this
  rw [this]
  exact outcome_read _
end Go.Proofs.YtflkafnhhadphaaDoor
