/- Plain: the document's reader as functions of its state, and that they tell what the plain reader tells. -/
import Derived.Test.YtflkafnhhadphaaDoorChecked
import Derived.Test.YtflkafnhhadphaaDoorRefO
namespace Go.Proofs.YtflkafnhhadphaaDoor
open Go Go.RowKit
set_option linter.unusedVariables false

def RQ.add (q : RQ) (n : Node) : RQ := { q with l := q.l ++ [n] }
def qFile (S path : List UInt8) (q : RQ) : RQ :=
  if (qWord S [wExec, wData] q).1 = wExec then
    (qWord S [wShut] ((qNext S 100 (qWord S [wData] (qWord S [[]] (qWord S [wExec, wData] q).2).2).2).2.add ⟨path, 2, (qNext S 100 (qWord S [wData] (qWord S [[]] (qWord S [wExec, wData] q).2).2).2).1⟩)).2
  else (qWord S [wShut] ((qNext S 100 (qWord S [wExec, wData] q).2).2.add ⟨path, 1, (qNext S 100 (qWord S [wExec, wData] q).2).1⟩)).2
def qLink (S path : List UInt8) (q : RQ) : RQ :=
  (qWord S [wShut] ((if dataB 3 (qNext S 100 (qWord S [wTo] q).2).1 then (qNext S 100 (qWord S [wTo] q).2).2 else (qNext S 100 (qWord S [wTo] q).2).2.fail 6 (qWord S [wTo] q).2.at').add ⟨path, 3, (qNext S 100 (qWord S [wTo] q).2).1⟩)).2
/-- one name of a directory, behind its entry -/
def qEntry (S : List UInt8) (node : List UInt8 → RQ → RQ) (path last : List UInt8) (q : RQ) : List UInt8 × RQ :=
  let q2 := (qWord S [wName] (qWord S [wOpen] q).2).2
  let y := qNext S 48 q2
  let q4 := if nameB y.1 then y.2 else y.2.fail 6 q2.at'
  let q5 := if leS y.1 last then q4.fail 7 q2.at' else q4
  (y.1, (qWord S [wShut] (node (joinP path y.1) (qWord S [wNode] q5).2)).2)
def qDirF (S : List UInt8) (node : List UInt8 → RQ → RQ) (path : List UInt8) : Nat → List UInt8 → RQ → RQ
  | 0, _, q => q
  | f + 1, last, q =>
    if (qWord S [wEntry, wShut] q).1 = wEntry then qDirF S node path f (qEntry S node path last (qWord S [wEntry, wShut] q).2).1 (qEntry S node path last (qWord S [wEntry, wShut] q).2).2
    else (qWord S [wEntry, wShut] q).2
def qMany (q : RQ) (at' : Int) : RQ := if q.l.length = 30 then q.fail 9 at' else q
def qHead (S : List UInt8) (deep : Bool) (q : RQ) : List UInt8 × RQ :=
  qWord S [wFile, wLink, wDir] (qWord S [wType] (qMany (if deep then (qWord S [wOpen] q).2.fail 8 q.at' else (qWord S [wOpen] q).2) q.at')).2
def qNode (S : List UInt8) : Nat → List UInt8 → RQ → RQ
  | 0, _, q => (qHead S true q).2
  | d + 1, path, q =>
    if (qHead S false q).1 = wFile then qFile S path (qHead S false q).2
    else if (qHead S false q).1 = wLink then qLink S path (qHead S false q).2
    else if (qHead S false q).1 = wDir then qDirF S (qNode S d) path (S.length + 1) [] ((qHead S false q).2.add ⟨path, 4, []⟩)
    else (qHead S false q).2

/- in an error nothing turns -/
theorem RQ.add_e (q : RQ) (n : Node) : (q.add n).e = q.e ∧ (q.add n).bad = q.bad ∧ (q.add n).at' = q.at' ∧ (q.add n).l = q.l ++ [n] := ⟨rfl, rfl, rfl, rfl⟩
theorem qMany_bad {q : RQ} (h : q.e ≠ 0) (p : Int) : qMany q p = q := by unfold qMany; rw [RQ.fail_bad h, ite_self]
theorem qHead_bad {S : List UInt8} {deep : Bool} {q : RQ} (h : q.e ≠ 0) : qHead S deep q = ([], q) := by
  unfold qHead
  rw [qWord_bad h, RQ.fail_bad h, ite_self, qMany_bad h, qWord_bad h, qWord_bad h]
theorem nil_ne : ([] : List UInt8) ≠ wFile ∧ ([] : List UInt8) ≠ wLink ∧ ([] : List UInt8) ≠ wDir ∧ ([] : List UInt8) ≠ wExec ∧ ([] : List UInt8) ≠ wEntry := by decide
theorem qNode_bad {S : List UInt8} {q : RQ} (h : q.e ≠ 0) : ∀ (d : Nat) (path : List UInt8), qNode S d path q = q
  | 0, path => by rw [qNode, qHead_bad h]
  | d + 1, path => by rw [qNode, qHead_bad h, if_neg nil_ne.1, if_neg nil_ne.2.1, if_neg nil_ne.2.2.1]
theorem qDirF_bad {S : List UInt8} {node : List UInt8 → RQ → RQ} {path : List UInt8} {q : RQ} (h : q.e ≠ 0) : ∀ (f : Nat) (last : List UInt8), qDirF S node path f last q = q
  | 0, _ => rfl
  | f + 1, last => by rw [qDirF, qWord_bad h, if_neg nil_ne.2.2.2.2]
/-- the same error -/
def SameE (q q' : RQ) : Prop := q'.e = q.e ∧ q'.bad = q.bad
theorem qFile_bad {S path : List UInt8} {q : RQ} (h : q.e ≠ 0) : SameE q (qFile S path q) := by
  unfold qFile
  rw [qWord_bad h, if_neg nil_ne.2.2.2.1, qNext_bad h, qWord_bad (by exact h)]
  exact ⟨rfl, rfl⟩
theorem qLink_bad {S path : List UInt8} {q : RQ} (h : q.e ≠ 0) : SameE q (qLink S path q) := by
  unfold qLink
  rw [qWord_bad h, qNext_bad h, RQ.fail_bad h, ite_self, qWord_bad (by exact h)]
  exact ⟨rfl, rfl⟩
theorem qEntry_bad {S : List UInt8} {node : List UInt8 → RQ → RQ} {path last : List UInt8} {q : RQ} (hn : ∀ p, node p q = q) (h : q.e ≠ 0) : qEntry S node path last q = ([], q) := by
  unfold qEntry
  simp only [qWord_bad h, qNext_bad h, RQ.fail_bad h, ite_self, hn]
/-- the state tells what the plain reader tells -/
def Res (S : List UInt8) (r : RE RS) (q : RQ) : Prop :=
  match r with
  | .error x => q.e = x.1 ∧ q.bad = x.2 ∧ x.1 ≠ 0
  | .ok ρ => q.e = 0 ∧ q.rs S = ρ ∧ q.at' ≤ S.length
theorem Res.error {S : List UInt8} {x : Int × Int} {q q' : RQ} (h : SameE q q') (h1 : q.e = x.1) (h2 : q.bad = x.2) (h3 : x.1 ≠ 0) : Res S (.error x) q' := ⟨h.1.trans h1, h.2.trans h2, h3⟩
theorem res_word {S : List UInt8} {may : List (List UInt8)} {q : RQ} {f : List UInt8 × RS → RE RS} {g : List UInt8 × RQ → RQ} (he : q.e = 0) (hat : q.at' ≤ S.length)
    (herr : ∀ q', q'.e ≠ 0 → SameE q' (g ([], q'))) (hok : ∀ s q', q'.e = 0 → q'.l = q.l → q'.at' ≤ S.length → s ∈ may → q.at' ≤ q'.at' → Res S (f (s, q'.rs S)) (g (s, q'))) : Res S ((rWord may (q.rs S)).bind f) (g (qWord S may q)) := by
  rcases qWord_ok he hat with ⟨x, q', h1, h2, h3, h4, h5, h6⟩ | ⟨s, q', h1, h2, h3, h4, h5, h6, h7⟩
  · rw [h1, h3]
    exact Res.error (herr q' (by rw [h4]; exact h2)) h4 h5 h2
  · rw [h1, h2]
    exact hok s q' h3 h4 h5 h6 h7
theorem res_next {S : List UInt8} {m : Nat} {q : RQ} {f : List UInt8 × RS → RE RS} {g : List UInt8 × RQ → RQ} (he : q.e = 0) (hat : q.at' ≤ S.length)
    (herr : ∀ q', q'.e ≠ 0 → SameE q' (g ([], q'))) (hok : ∀ s q', q'.e = 0 → q'.l = q.l → q'.at' ≤ S.length → q.at' ≤ q'.at' → Res S (f (s, q'.rs S)) (g (s, q'))) : Res S ((rNext m (q.rs S)).bind f) (g (qNext S m q)) := by
  rcases qNext_ok (m := m) he hat with ⟨x, h1, h2, h3⟩ | ⟨s, q', h1, h2, h3, h4, h5, h6⟩
  · rw [h1, h3]
    exact Res.error (herr _ (by exact h2)) rfl rfl h2
  · rw [h1, h2]
    exact hok s q' h3 h4 h5 h6
theorem res_last {S : List UInt8} {may : List (List UInt8)} {q : RQ} (he : q.e = 0) (hat : q.at' ≤ S.length) : Res S ((rWord may (q.rs S)).bind fun x => .ok x.2) (qWord S may q).2 :=
  res_word (g := Prod.snd) he hat (fun q' _ => ⟨rfl, rfl⟩) (fun s q' h1 h2 h3 _ _ => ⟨h1, rfl, h3⟩)
theorem rs_add (S : List UInt8) (q : RQ) (n : Node) : (q.add n).rs S = (q.rs S).add n := rfl
theorem same_word {S : List UInt8} {may : List (List UInt8)} {q : RQ} (h : q.e ≠ 0) : SameE q (qWord S may q).2 := by rw [qWord_bad h]; exact ⟨rfl, rfl⟩
theorem qFile_spec {S path : List UInt8} {q : RQ} (he : q.e = 0) (hat : q.at' ≤ S.length) : Res S (rFile path (q.rs S)) (qFile S path q) := by
  unfold rFile qFile
  refine res_word (g := fun z => if z.1 = wExec then
    (qWord S [wShut] ((qNext S 100 (qWord S [wData] (qWord S [[]] z.2).2).2).2.add ⟨path, 2, (qNext S 100 (qWord S [wData] (qWord S [[]] z.2).2).2).1⟩)).2
  else (qWord S [wShut] ((qNext S 100 z.2).2.add ⟨path, 1, (qNext S 100 z.2).1⟩)).2) he hat (fun q' hq' => ?_) (fun s q' h1 h2 h3 _ _ => ?_)
  · rw [if_neg nil_ne.2.2.2.1, qNext_bad hq', qWord_bad (by exact hq')]
    exact ⟨rfl, rfl⟩
  · simp only
    split
    · refine res_word (g := fun z => (qWord S [wShut] ((qNext S 100 (qWord S [wData] z.2).2).2.add ⟨path, 2, (qNext S 100 (qWord S [wData] z.2).2).1⟩)).2) h1 h3 (fun q' hq' => ?_) (fun s q' h1 h2 h3 _ _ => ?_)
      · rw [qWord_bad hq', qNext_bad hq', qWord_bad (by exact hq')]
        exact ⟨rfl, rfl⟩
      · refine res_word (g := fun z => (qWord S [wShut] ((qNext S 100 z.2).2.add ⟨path, 2, (qNext S 100 z.2).1⟩)).2) h1 h3 (fun q' hq' => ?_) (fun s q' h1 h2 h3 _ _ => ?_)
        · rw [qNext_bad hq', qWord_bad (by exact hq')]
          exact ⟨rfl, rfl⟩
        · refine res_next (g := fun z => (qWord S [wShut] (z.2.add ⟨path, 2, z.1⟩)).2) h1 h3 (fun q' hq' => ?_) (fun s q' h1 h2 h3 _ => ?_)
          · rw [qWord_bad (by exact hq')]
            exact ⟨rfl, rfl⟩
          · exact res_last (q := q'.add ⟨path, 2, s⟩) h1 h3
    · refine res_next (g := fun z => (qWord S [wShut] (z.2.add ⟨path, 1, z.1⟩)).2) h1 h3 (fun q' hq' => ?_) (fun s q' h1 h2 h3 _ => ?_)
      · rw [qWord_bad (by exact hq')]
        exact ⟨rfl, rfl⟩
      · exact res_last (q := q'.add ⟨path, 1, s⟩) h1 h3
theorem qLink_spec {S path : List UInt8} {q : RQ} (he : q.e = 0) (hat : q.at' ≤ S.length) : Res S (rLink path (q.rs S)) (qLink S path q) := by
  unfold rLink qLink
  refine res_word (g := fun y => (qWord S [wShut] ((if dataB 3 (qNext S 100 y.2).1 then (qNext S 100 y.2).2 else (qNext S 100 y.2).2.fail 6 y.2.at').add ⟨path, 3, (qNext S 100 y.2).1⟩)).2) he hat (fun q' hq' => ?_) (fun s q' h1 h2 h3 _ _ => ?_)
  · simp only
    rw [qNext_bad hq', RQ.fail_bad hq', ite_self, qWord_bad (by exact hq')]
    exact ⟨rfl, rfl⟩
  · refine res_next (g := fun z => (qWord S [wShut] ((if dataB 3 z.1 then z.2 else z.2.fail 6 q'.at').add ⟨path, 3, z.1⟩)).2) h1 h3 (fun q'' hq' => ?_) (fun t q'' g1 g2 g3 _ => ?_)
    · simp only
      rw [RQ.fail_bad hq', ite_self, qWord_bad (by exact hq')]
      exact ⟨rfl, rfl⟩
    · simp only
      by_cases hd : dataB 3 t = true
      · rw [if_pos hd, if_pos hd]
        exact res_last (q := q''.add ⟨path, 3, t⟩) g1 g3
      · rw [if_neg hd, if_neg hd, rfail_ne _ _ g1]
        rw [qWord_bad (by show (6 : Int) ≠ 0; decide)]
        exact ⟨rfl, rfl, by show (6 : Int) ≠ 0; decide⟩
/-- the fuel is enough -/
theorem rDirF_fuel {d : Nat} {path : List UInt8} : ∀ (f g : Nat) (last : List UInt8) (ρ : RS), ρ.rest.length < f → ρ.rest.length < g → rDirF (rNode d) path f last ρ = rDirF (rNode d) path g last ρ
  | 0, _, _, _, h, _ => absurd h (by omega)
  | _, 0, _, _, _, h => absurd h (by omega)
  | f + 1, g + 1, last, ρ, hf, hg => by
    unfold rDirF
    cases h1 : rWord [wEntry, wShut] ρ with
    | error e => rfl
    | ok x =>
      have l1 := rWord_le h1
      simp only [Except.bind]
      split
      · rfl
      · cases h2 : rWord [wOpen] x.2 with
        | error e => rfl
        | ok y =>
          have l2 := rWord_le h2
          simp only
          cases h3 : rWord [wName] y.2 with
          | error e => rfl
          | ok z =>
            have l3 := rWord_le h3
            simp only
            cases h4 : rNext 48 z.2 with
            | error e => rfl
            | ok u =>
              have l4 := rNext_le h4
              simp only
              split
              · rfl
              · split
                · rfl
                · cases h5 : rWord [wNode] u.2 with
                  | error e => rfl
                  | ok v =>
                    have l5 := rWord_le h5
                    simp only
                    cases h6 : rNode d (joinP path u.1) v.2 with
                    | error e => rfl
                    | ok ρ2 =>
                      have l6 := rNode_le _ _ _ _ h6
                      simp only
                      cases h7 : rWord [wShut] ρ2 with
                      | error e => rfl
                      | ok v2 =>
                        have l7 := rWord_le h7
                        simp only
                        exact rDirF_fuel f g _ _ (by omega) (by omega)
def NodeSpec (S : List UInt8) (d : Nat) : Prop := ∀ (path : List UInt8) (q : RQ), q.e = 0 → q.at' ≤ S.length → Res S (rNode d path (q.rs S)) (qNode S d path q)
theorem qDirF_spec {S : List UInt8} {d : Nat} (hN : NodeSpec S d) (path : List UInt8) : ∀ (f : Nat) (last : List UInt8) (q : RQ), q.e = 0 → q.at' ≤ S.length → (q.rs S).rest.length < f → Res S (rDirF (rNode d) path f last (q.rs S)) (qDirF S (qNode S d) path f last q)
  | 0, _, _, _, _, h => absurd h (by omega)
  | f + 1, last, q, he, hat, hf => by
    unfold rDirF
    rw [qDirF]
    cases hw : rWord [wEntry, wShut] (q.rs S) with
    | error x =>
      rcases qWord_ok (may := [wEntry, wShut]) he hat with ⟨x', q', h1, h2, h3, h4, h5, h6⟩ | ⟨s, q', h1, _⟩
      · rw [hw] at h1
        cases h1
        rw [h3, if_neg nil_ne.2.2.2.2]
        exact ⟨h4, h5, h2⟩
      · rw [hw] at h1; cases h1
    | ok x =>
      have hle := rWord_le hw
      rcases qWord_ok (may := [wEntry, wShut]) he hat with ⟨x', q', h1, _⟩ | ⟨s, q', h1, h2, h3, h4, h5, h6, h7⟩
      · rw [hw] at h1; cases h1
      rw [hw] at h1
      cases h1
      rw [h2]
      simp only [Except.bind]
      by_cases hs : s = wShut
      · rw [if_pos hs, if_neg (by rw [hs]; decide)]
        exact ⟨h3, rfl, h5⟩
      · have hse : s = wEntry := by
          simp only [List.mem_cons, List.not_mem_nil, or_false] at h6
          exact h6.resolve_right hs
        rw [if_neg hs, if_pos hse]
        have hgo : ∀ (x : Int × Int) (q'' : RQ) (p : List UInt8), q''.e ≠ 0 → q''.e = x.1 → q''.bad = x.2 → Res S (.error x) (qDirF S (qNode S d) path f p q'') := fun x q'' p e1 e2 e3 => by
          rw [qDirF_bad e1]; exact ⟨e2, e3, by rw [← e2]; exact e1⟩
        refine res_word (g := fun z => qDirF S (qNode S d) path f (qNext S 48 (qWord S [wName] z.2).2).1 ((qWord S [wShut] (qNode S d (joinP path (qNext S 48 (qWord S [wName] z.2).2).1) (qWord S [wNode] (if leS (qNext S 48 (qWord S [wName] z.2).2).1 last then (if nameB (qNext S 48 (qWord S [wName] z.2).2).1 then (qNext S 48 (qWord S [wName] z.2).2).2 else (qNext S 48 (qWord S [wName] z.2).2).2.fail 6 (qWord S [wName] z.2).2.at').fail 7 (qWord S [wName] z.2).2.at' else (if nameB (qNext S 48 (qWord S [wName] z.2).2).1 then (qNext S 48 (qWord S [wName] z.2).2).2 else (qNext S 48 (qWord S [wName] z.2).2).2.fail 6 (qWord S [wName] z.2).2.at'))).2)).2)) h3 h5 (fun q2 e2 => ?_) (fun s2 q2 e2 l2 a2 _ m2 => ?_)
        · simp only [qWord_bad e2, qNext_bad e2, RQ.fail_bad e2, ite_self, qNode_bad e2, qDirF_bad e2]
          exact ⟨rfl, rfl⟩
        refine res_word (g := fun z => qDirF S (qNode S d) path f (qNext S 48 z.2).1 ((qWord S [wShut] (qNode S d (joinP path (qNext S 48 z.2).1) (qWord S [wNode] (if leS (qNext S 48 z.2).1 last then (if nameB (qNext S 48 z.2).1 then (qNext S 48 z.2).2 else (qNext S 48 z.2).2.fail 6 z.2.at').fail 7 z.2.at' else (if nameB (qNext S 48 z.2).1 then (qNext S 48 z.2).2 else (qNext S 48 z.2).2.fail 6 z.2.at'))).2)).2)) e2 a2 (fun q3 e3 => ?_) (fun s3 q3 e3 l3 a3 _ m3 => ?_)
        · simp only [qWord_bad e3, qNext_bad e3, RQ.fail_bad e3, ite_self, qNode_bad e3, qDirF_bad e3]
          exact ⟨rfl, rfl⟩
        refine res_next (g := fun z => qDirF S (qNode S d) path f z.1 ((qWord S [wShut] (qNode S d (joinP path z.1) (qWord S [wNode] (if leS z.1 last then (if nameB z.1 then z.2 else z.2.fail 6 q3.at').fail 7 q3.at' else (if nameB z.1 then z.2 else z.2.fail 6 q3.at'))).2)).2)) e3 a3 (fun q4 e4 => ?_) (fun s4 q4 e4 l4 a4 m4 => ?_)
        · simp only [qWord_bad e4, RQ.fail_bad e4, ite_self, qNode_bad e4, qDirF_bad e4]
          exact ⟨rfl, rfl⟩
        simp only
        by_cases hnm : nameB s4 = true
        · by_cases hls : leS s4 last = true
          · simp only [hnm, hls, if_true, Bool.true_eq_false, if_false]
            rw [rfail_ne _ _ e4]
            have h7e : ({ q4 with e := 7, bad := (q3.at' : Int) } : RQ).e ≠ 0 := by show (7 : Int) ≠ 0; decide
            rw [qWord_bad h7e, qNode_bad h7e, qWord_bad h7e]
            exact hgo _ _ _ h7e rfl rfl
          · simp only [hnm, if_neg hls, if_true, Bool.true_eq_false, if_false]
            refine res_word (g := fun z => qDirF S (qNode S d) path f s4 ((qWord S [wShut] (qNode S d (joinP path s4) z.2)).2)) e4 a4 (fun q5 e5 => ?_) (fun s5 q5 e5 l5 a5 _ m5 => ?_)
            · simp only [qWord_bad e5, qNode_bad e5, qDirF_bad e5]
              exact ⟨rfl, rfl⟩
            · simp only
              have hr := hN (joinP path s4) q5 e5 a5
              cases hn : rNode d (joinP path s4) (q5.rs S) with
              | error x =>
                rw [hn] at hr
                obtain ⟨r1, r2, r3⟩ := hr
                have h6e : (qNode S d (joinP path s4) q5).e ≠ 0 := by rw [r1]; exact r3
                rw [qWord_bad h6e]
                exact hgo _ _ _ h6e r1 r2
              | ok ρ =>
                rw [hn] at hr
                obtain ⟨r1, r2, r3⟩ := hr
                have hle2 := rNode_le d _ _ _ hn
                rw [← r2] at hle2 ⊢
                generalize qNode S d (joinP path s4) q5 = q6 at *
                refine res_word (f := fun z => rDirF (rNode d) path f s4 z.2) (g := fun z => qDirF S (qNode S d) path f s4 z.2) r1 r3 (fun q7 e7 => ?_) (fun s7 q7 e7 l7 a7 _ m7 => ?_)
                · simp only [qDirF_bad e7]
                  exact ⟨rfl, rfl⟩
                · refine qDirF_spec hN path f s4 q7 e7 a7 ?_
                  have hlen : ∀ q : RQ, (q.rs S).rest.length = S.length - q.at' := fun q => by simp [RQ.rs]
                  rw [hlen] at hf hle2 ⊢
                  rw [hlen] at hle2
                  rw [hlen, hlen] at hle
                  omega
        · have hnm2 : nameB s4 = false := by simpa using hnm
          simp only [hnm2, if_true, Bool.false_eq_true, if_false]
          rw [rfail_ne _ _ e4]
          have h6e : ({ q4 with e := 6, bad := (q3.at' : Int) } : RQ).e ≠ 0 := by show (6 : Int) ≠ 0; decide
          rw [RQ.fail_bad h6e, ite_self, qWord_bad h6e, qNode_bad h6e, qWord_bad h6e]
          exact hgo _ _ _ h6e rfl rfl
theorem qNode_spec (S : List UInt8) : ∀ d : Nat, NodeSpec S d
  | 0 => by
    intro path q he hat
    unfold rNode
    rw [qNode]
    unfold qHead
    simp only [if_true]
    refine res_word (g := fun z => (qWord S [wFile, wLink, wDir] (qWord S [wType] (qMany (z.2.fail 8 q.at') q.at')).2).2) he hat (fun q1 e1 => ?_) (fun s1 q1 e1 l1 a1 _ m1 => ?_)
    · simp only [RQ.fail_bad e1, qMany_bad e1, qWord_bad e1]
      exact ⟨rfl, rfl⟩
    · simp only
      rw [rfail_ne _ _ e1]
      have h8e : ({ q1 with e := 8, bad := (q.at' : Int) } : RQ).e ≠ 0 := by show (8 : Int) ≠ 0; decide
      rw [qMany_bad h8e, qWord_bad h8e, qWord_bad h8e]
      exact ⟨rfl, rfl, by show (8 : Int) ≠ 0; decide⟩
  | d + 1 => by
    intro path q he hat
    have ih := qNode_spec S d
    unfold rNode
    rw [qNode]
    unfold qHead
    simp only [Bool.false_eq_true, if_false]
    refine res_word (g := fun z => if (qWord S [wFile, wLink, wDir] (qWord S [wType] (qMany z.2 q.at')).2).1 = wFile then qFile S path (qWord S [wFile, wLink, wDir] (qWord S [wType] (qMany z.2 q.at')).2).2
      else if (qWord S [wFile, wLink, wDir] (qWord S [wType] (qMany z.2 q.at')).2).1 = wLink then qLink S path (qWord S [wFile, wLink, wDir] (qWord S [wType] (qMany z.2 q.at')).2).2
      else if (qWord S [wFile, wLink, wDir] (qWord S [wType] (qMany z.2 q.at')).2).1 = wDir then qDirF S (qNode S d) path (S.length + 1) [] ((qWord S [wFile, wLink, wDir] (qWord S [wType] (qMany z.2 q.at')).2).2.add ⟨path, 4, []⟩)
      else (qWord S [wFile, wLink, wDir] (qWord S [wType] (qMany z.2 q.at')).2).2) he hat (fun q1 e1 => ?_) (fun s1 q1 e1 l1 a1 _ m1 => ?_)
    · simp only [qMany_bad e1, qWord_bad e1]
      rw [if_neg nil_ne.1, if_neg nil_ne.2.1, if_neg nil_ne.2.2.1]
      exact ⟨rfl, rfl⟩
    · simp only
      by_cases h30 : q1.l.length = 30
      · rw [if_pos (by exact h30), qMany, if_pos h30, rfail_ne _ _ e1]
        have h9e : ({ q1 with e := 9, bad := (q.at' : Int) } : RQ).e ≠ 0 := by show (9 : Int) ≠ 0; decide
        rw [qWord_bad h9e, qWord_bad h9e, if_neg nil_ne.1, if_neg nil_ne.2.1, if_neg nil_ne.2.2.1]
        exact ⟨rfl, rfl, by show (9 : Int) ≠ 0; decide⟩
      · rw [if_neg (by exact h30), qMany, if_neg h30]
        refine res_word (g := fun z => if (qWord S [wFile, wLink, wDir] z.2).1 = wFile then qFile S path (qWord S [wFile, wLink, wDir] z.2).2
          else if (qWord S [wFile, wLink, wDir] z.2).1 = wLink then qLink S path (qWord S [wFile, wLink, wDir] z.2).2
          else if (qWord S [wFile, wLink, wDir] z.2).1 = wDir then qDirF S (qNode S d) path (S.length + 1) [] ((qWord S [wFile, wLink, wDir] z.2).2.add ⟨path, 4, []⟩)
          else (qWord S [wFile, wLink, wDir] z.2).2) e1 a1 (fun q2 e2 => ?_) (fun s2 q2 e2 l2 a2 _ m2 => ?_)
        · simp only [qWord_bad e2]
          rw [if_neg nil_ne.1, if_neg nil_ne.2.1, if_neg nil_ne.2.2.1]
          exact ⟨rfl, rfl⟩
        · refine res_word (g := fun z => if z.1 = wFile then qFile S path z.2 else if z.1 = wLink then qLink S path z.2 else if z.1 = wDir then qDirF S (qNode S d) path (S.length + 1) [] (z.2.add ⟨path, 4, []⟩) else z.2) e2 a2 (fun q3 e3 => ?_) (fun s3 q3 e3 l3 a3 hmem m3 => ?_)
          · simp only
            rw [if_neg nil_ne.1, if_neg nil_ne.2.1, if_neg nil_ne.2.2.1]
            exact ⟨rfl, rfl⟩
          · simp only
            by_cases h1 : s3 = wFile
            · rw [if_pos h1, if_pos h1]; exact qFile_spec e3 a3
            · rw [if_neg h1, if_neg h1]
              by_cases h2 : s3 = wLink
              · rw [if_pos h2, if_pos h2]; exact qLink_spec e3 a3
              · have h3 : s3 = wDir := by
                  simp only [List.mem_cons, List.not_mem_nil, or_false] at hmem
                  rcases hmem with h | h | h
                  · exact absurd h h1
                  · exact absurd h h2
                  · exact h
                rw [if_neg h2, if_neg h2, if_pos h3]
                have hfu : ∀ f : Nat, (q3.rs S).rest.length < f → rDirF (rNode d) path f [] ((q3.rs S).add ⟨path, 4, []⟩) = rDirF (rNode d) path ((q3.rs S).rest.length + 1) [] ((q3.rs S).add ⟨path, 4, []⟩) := fun f hf => rDirF_fuel _ _ _ _ hf (by simp only [RS.add]; omega)
                rw [← hfu (S.length + 1) (by simp [RQ.rs]; omega)]
                exact qDirF_spec ih path (S.length + 1) [] (q3.add ⟨path, 4, []⟩) e3 a3 (by simp [RQ.rs, RQ.add]; omega)
end Go.Proofs.YtflkafnhhadphaaDoor
