/- The parser, plain: what is done with each string that comes. -/
import Derived.Test.YtflkafnhhadphaaDoorChecked
import Derived.Test.YtflkafnhhadphaaDoorJoin
import Derived.Test.YtflkafnhhadphaaDoorWrong
namespace Go.Proofs.YtflkafnhhadphaaDoor
open Go Go.RowKit
set_option linter.unusedVariables false

/-- what is done behind a word -/
inductive Act1 where
  | none | open' | kind | file | dir
  deriving DecidableEq
/-- a string that must come -/
inductive Job where
  | word (may : List (List UInt8)) (act : Act1)
  | leads
  | name
  | keep (k : Int)
  deriving DecidableEq
def Job.most : Job → Nat
  | .word _ _ => 8
  | .leads => 100
  | .name => 48
  | .keep _ => 100
structure PSt where
  rest : List UInt8
  at' : Nat
  err : Int
  bad : Int
  nodes : List Node
  above : Opens
  path : List UInt8
def PSt.fail (σ : PSt) (e : Int) (p : Int) : PSt := if σ.err = 0 then { σ with err := e, bad := p, rest := [] } else σ
def PSt.feed (σ : PSt) (s : List UInt8) : PSt := if σ.err = 0 then { σ with rest := σ.rest ++ s } else σ
def PSt.add (σ : PSt) (k : Int) (d : List UInt8) : PSt := { σ with nodes := σ.nodes ++ [⟨σ.path, k, d⟩] }
/-- a number out of eight bytes, the lowest first -/
def num64 : List UInt8 → Nat
  | [] => 0
  | b :: r => b.toNat + 256 * num64 r
/-- the next string, of so many bytes at most -/
def PSt.next (σ : PSt) (most : Nat) : Option (List UInt8) × PSt :=
  if σ.err ≠ 0 ∨ σ.rest.length < 8 then (.none, σ)
  else if most < num64 (σ.rest.take 8) then (.none, σ.fail 3 σ.at')
  else if σ.rest.length < 8 + num64 (σ.rest.take 8) + padN (num64 (σ.rest.take 8)) then (.none, σ)
  else if ((σ.rest.drop (8 + num64 (σ.rest.take 8))).take (padN (num64 (σ.rest.take 8)))).any (· != 0) then (.none, σ.fail 4 σ.at')
  else (.some ((σ.rest.drop 8).take (num64 (σ.rest.take 8))), { σ with rest := σ.rest.drop (8 + num64 (σ.rest.take 8) + padN (num64 (σ.rest.take 8))), at' := σ.at' + (8 + num64 (σ.rest.take 8) + padN (num64 (σ.rest.take 8))) })
abbrev wEntry : List UInt8 := [101, 110, 116, 114, 121]
abbrev wOpen : List UInt8 := [40]
abbrev wShut : List UInt8 := [41]
abbrev wType : List UInt8 := [116, 121, 112, 101]
abbrev wFile : List UInt8 := [102, 105, 108, 101]
abbrev wLink : List UInt8 := [108, 105, 110, 107]
abbrev wDir : List UInt8 := [100, 105, 114]
abbrev wExec : List UInt8 := [101, 120, 101, 99]
abbrev wData : List UInt8 := [100, 97, 116, 97]
abbrev wTo : List UInt8 := [116, 111]
abbrev wName : List UInt8 := [110, 97, 109, 101]
abbrev wNode : List UInt8 := [110, 111, 100, 101]
abbrev wNar : List UInt8 := [110, 97, 114, 45, 49]
/-- the strings with which a node begins -/
def nodeJobs : List Job := [.word [wOpen] .open', .word [wType] .none, .word [wFile, wLink, wDir] .kind]
def dirJob : Job := .word [wEntry, wShut] .dir
/-- behind a word: what must come then, and the state -/
def doAct (act : Act1) (s : List UInt8) (p : Int) (σ : PSt) : List Job × PSt :=
  match act with
  | .none => ([], σ)
  | .open' => ([], if 5 < σ.above.length then σ.fail 8 p else if σ.nodes.length = 30 then σ.fail 9 p else σ)
  | .kind =>
    if s = wFile then ([.word [wExec, wData] .file], σ)
    else if s = wLink then ([.word [wTo] .none, .leads, .word [wShut] .none], σ)
    else if s = wDir then ([dirJob], { σ.add 4 [] with above := σ.above ++ [(σ.path, [])] })
    else ([], σ)
  | .file => if s = wExec then ([.word [[]] .none, .word [wData] .none, .keep 2, .word [wShut] .none], σ) else ([.keep 1, .word [wShut] .none], σ)
  | .dir => if s = wShut then ([], { σ with above := σ.above.dropLast })
    else ([.word [wOpen] .none, .word [wName] .none, .name, .word [wNode] .none] ++ nodeJobs ++ [.word [wShut] .none, dirJob], σ)
def doJob (j : Job) (s : List UInt8) (p : Int) (σ : PSt) : List Job × PSt :=
  match j with
  | .word may act => if s ∈ may then doAct act s p σ else ([], σ.fail 5 p)
  | .leads => ([], (if dataB 3 s then σ else σ.fail 6 p).add 3 s)
  | .name => ([], { (if !nameB s then σ.fail 6 p else if leS s (σ.above.getLastD ([], [])).2 then σ.fail 7 p else σ) with
      above := σ.above.dropLast ++ [((σ.above.getLastD ([], [])).1, s)], path := joinP (σ.above.getLastD ([], [])).1 s })
  | .keep k => ([], σ.add k s)
/-- as far as there are bytes -/
def runF : Nat → List Job → PSt → List Job × PSt
  | 0, js, σ => (js, σ)
  | _ + 1, [], σ => ([], if σ.rest = [] then σ else σ.fail 10 σ.at')
  | f + 1, j :: js, σ => match σ.next j.most with
    | (.none, σ') => (j :: js, σ')
    | (.some s, σ') => runF f ((doJob j s σ.at' σ').1 ++ js) (doJob j s σ.at' σ').2
def run (js : List Job) (σ : PSt) : List Job × PSt := runF (σ.rest.length + 1) js σ
end Go.Proofs.YtflkafnhhadphaaDoor
