/- Plain: a tree's bytes, with one less, with one more; whole words of eight. -/
import Derived.Test.YtflkafnhhadphaaDoorChecked
import Derived.Test.YtflkafnhhadphaaDoorShapeW
namespace Go.Proofs.YtflkafnhhadphaaDoor
open Go Go.RowKit
set_option linter.unusedVariables false

theorem rTree_pack {l : List Node} (h : wrongL l = -1) (R : List UInt8) : ∃ a, rTree (packP l ++ R) = .ok ⟨R, a, l⟩ := by
  obtain ⟨x, r, rfl, hv, hl⟩ := VN_of_wrong h
  rw [pack_ref h]
  unfold rTree
  rw [rWord_of (ρ := ⟨_, 0, []⟩) (s := wNar) (R := refPackL (x :: r) ++ R) (by simp) (by decide) (by simp)]
  simp only [Except.bind]
  obtain ⟨a, ha⟩ := node_of (e := 5) (path := []) (x := x) (r := r) (R := R) (ρ := ⟨refPackL (x :: r) ++ R, 0 + (putL wNar).length, []⟩) hv rfl (by simp only [List.length_cons, List.length_nil] at hl ⊢; omega) (fun h4 f ρ hr hf hn => by
    rcases hv.2 with ⟨k, _⟩ | ⟨_, _, hvf⟩
    · exact absurd h4 k
    · exact dirF_of hvf R f ρ hr hf hn)
  exact ⟨a, ha⟩
theorem read_more {l : List Node} (h : wrongL l = -1) (c : UInt8) : readL (packP l ++ [c]) = ([], 10, ((packP l).length : Int)) := by
  obtain ⟨a, ha⟩ := rTree_pack h [c]
  obtain ⟨n, hn⟩ : ∃ n, (packP l).length = n := ⟨_, rfl⟩
  have hS : (packP l ++ [c]).length = n + 1 := by rw [List.length_append, hn]; rfl
  rw [hn]
  generalize packP l ++ [c] = S at *
  have hf := fair_tree S
  rw [ha, hS] at hf
  have h2 : a + 1 = n + 1 := hf
  unfold readL
  rw [ha]
  simp only
  rw [if_neg (by simp), show a = n by omega]
theorem told_zero {σ : PSt} {l : List Node} {b : Int} (h : told σ = (l, 0, b)) : σ.err = 0 := by
  unfold told at h
  split at h
  · assumption
  · rename_i he
    simp only [Prod.mk.injEq] at h
    exact absurd h.2.1 he
theorem run_twice (js : List Job) (σ : PSt) (hd : σ.Dry) : run (run js σ).1 (run js σ).2 = run js σ := by
  have := (run_feed _ js σ [] (Nat.le_refl _) hd).1
  rw [feed_nil, feed_nil] at this
  exact this.symm
theorem read_less {l : List Node} (h : wrongL l = -1) : readL (packP l).dropLast = ([], 2, ((packP l).length : Int) - 1) := by
  have hne : packP l ≠ [] := packP_ne l
  obtain ⟨S, c, hS⟩ : ∃ S c, packP l = S ++ [c] := ⟨_, _, (List.dropLast_concat_getLast hne).symm⟩
  have hdry : PSt.Dry (fresh.feed S) := PSt.Dry.feed (fun h => absurd rfl h) S
  have hfull := outcome_read (packP l)
  rw [read_pack h, hS, ← PSt.feed_feed, outcome, (run_feed _ treeJobs (fresh.feed S) [c] (Nat.le_refl _) hdry).1] at hfull
  have hpart := outcome_read S
  rw [outcome] at hpart
  have htw := run_twice treeJobs (fresh.feed S) hdry
  have hdr := run_dry treeJobs (fresh.feed S) hdry
  generalize run treeJobs (fresh.feed S) = x at *
  obtain ⟨js, σ⟩ := x
  simp only at hfull hpart htw hdr
  have he : σ.err = 0 := by
    refine Classical.byContradiction fun hb => ?_
    rw [PSt.feed_bad hb, run_bad hb hdr] at hfull
    have h0 := told_zero hfull
    unfold finish at h0
    simp only at h0
    split at h0
    · exact hb h0
    · rw [PSt.fail_bad hb] at h0; exact hb h0
  have hjs : js ≠ [] := by
    rintro rfl
    rw [run_nil] at htw
    have hr : σ.rest = [] := by
      refine Classical.byContradiction fun hb => ?_
      rw [if_neg hb, PSt.fail_ok he] at htw
      have h1 := congrArg (fun x : List Job × PSt => x.2.err) htw
      simp only at h1
      rw [he] at h1
      exact absurd h1 (by decide)
    rw [PSt.feed_ok he, hr, run_nil, if_neg (by simp), PSt.fail_ok (by exact he)] at hfull
    have h0 := told_zero hfull
    exact absurd h0 (by show (10 : Int) ≠ 0; decide)
  rw [hS, List.dropLast_concat]
  have h2 : (readL S).2.1 = 2 ∧ (readL S).1 = [] := by
    rw [← hpart, finish, if_neg hjs, PSt.fail_ok he, told, if_neg (by show (2 : Int) ≠ 0; decide)]
    exact ⟨rfl, rfl⟩
  rcases read_fair S with ⟨h3, _⟩ | ⟨_, _, _, _, h5⟩
  · rw [h2.1] at h3; exact absurd h3 (by decide)
  · have h6 := h5 h2.1
    have : readL S = ((readL S).1, (readL S).2.1, (readL S).2.2) := rfl
    rw [this, h2.1, h2.2, h6, List.length_append]
    congr 2
    simp
/- whole words of eight -/
theorem putL_8 (s : List UInt8) : (putL s).length % 8 = 0 ∧ 8 ≤ (putL s).length := by
  rw [putL_length]; unfold padN; omega
theorem putAll_8 : ∀ l : List (List UInt8), (putAll l).length % 8 = 0 ∧ 8 * l.length ≤ (putAll l).length
  | [] => by simp [putAll]
  | s :: l => by
    have h1 := putL_8 s
    have h2 := putAll_8 l
    have e : putAll (s :: l) = putL s ++ putAll l := rfl
    rw [e, List.length_append, List.length_cons]
    omega
theorem leafR_8 (k : Int) (d : List UInt8) : (leafR k d).length % 8 = 0 ∧ 24 ≤ (leafR k d).length := by
  unfold leafR
  split
  · have := putAll_8 [[102, 105, 108, 101], [100, 97, 116, 97], d]; simp only [List.length_cons, List.length_nil] at this; omega
  · split
    · have := putAll_8 [[102, 105, 108, 101], [101, 120, 101, 99], [], [100, 97, 116, 97], d]; simp only [List.length_cons, List.length_nil] at this; omega
    · have := putAll_8 [[108, 105, 110, 107], [116, 111], d]; simp only [List.length_cons, List.length_nil] at this; omega
theorem nodeR_8 (x : Node) (kids : List UInt8) (hk : kids.length % 8 = 0) : (nodeR x kids).length % 8 = 0 ∧ 48 ≤ (nodeR x kids).length := by
  have h1 : (putAll [[40], [116, 121, 112, 101]]).length = 32 := by decide
  have h2 : (putL [41]).length = 16 := by decide
  have h3 : (putL [100, 105, 114]).length = 16 := by decide
  have h4 := leafR_8 x.kind x.data
  unfold nodeR
  rw [List.length_append, List.length_append, h1, h2]
  split
  · omega
  · rw [List.length_append, h3]; omega
theorem forestF_8 : ∀ (f : Nat) (l : List Node), (forestF f l).length % 8 = 0
  | 0, _ => by simp [forestF]
  | _ + 1, [] => by simp [forestF]
  | f + 1, y :: r => by
    have h1 := putAll_8 [[101, 110, 116, 114, 121], [40], [110, 97, 109, 101], (dirOf y.path).2, [110, 111, 100, 101]]
    have h2 := nodeR_8 y _ (forestF_8 f (r.takeWhile fun z => belowB z.path y.path))
    have h3 := forestF_8 f (r.dropWhile fun z => belowB z.path y.path)
    have h4 := putL_8 [41]
    rw [forestF]
    simp only [List.length_append, entryT]
    omega
theorem pack_8 {l : List Node} (h : wrongL l = -1) : (packP l).length % 8 = 0 ∧ 64 ≤ (packP l).length := by
  obtain ⟨x, r, rfl, hv, hl⟩ := VN_of_wrong h
  rw [pack_ref h]
  have h1 : (putL [110, 97, 114, 45, 49]).length = 16 := by decide
  have h2 := nodeR_8 x (forest r) (forestF_8 _ _)
  rw [List.length_append, h1]
  show (16 + (nodeR x (forest r)).length) % 8 = 0 ∧ 64 ≤ 16 + (nodeR x (forest r)).length
  omega
end Go.Proofs.YtflkafnhhadphaaDoor
