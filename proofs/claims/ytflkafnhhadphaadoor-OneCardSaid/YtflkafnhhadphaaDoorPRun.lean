/- (*tree.Parser).Word's closure, Run. -/
import Derived.Test.YtflkafnhhadphaaDoorChecked
import Derived.Test.YtflkafnhhadphaaDoorPInv
import Derived.Test.YtflkafnhhadphaaDoorPFile
namespace Go.Proofs.YtflkafnhhadphaaDoor
open Go Go.RowKit
set_option linter.unusedVariables false

def jsOf (ts : List (Job × Value)) : List Job := (ts.map Prod.fst).reverse
theorem jsOf_snoc (ts : List (Job × Value)) (j : Job) (f : Value) : jsOf (ts ++ [(j, f)]) = j :: jsOf ts := by simp [jsOf]
theorem jsOf_append (ts us : List (Job × Value)) : jsOf (ts ++ us) = (us.map Prod.fst).reverse ++ jsOf ts := by simp [jsOf]
theorem jsOf_length (ts : List (Job × Value)) : (jsOf ts).length = ts.length := by simp [jsOf]
theorem FitJ.fit {ts : List (Job × Value)} {σ : PSt} (h : FitJ ts.length σ) : Fit ts σ := ⟨h.all, h.todo, h.nodes, h.above, h.path, h.dirs⟩
theorem next_some {σ σ' : PSt} {most : Nat} {s : List UInt8} (h : σ.next most = (.some s, σ')) : σ.err = 0 ∧ ∃ k, 8 ≤ k ∧ s.length + 8 ≤ k ∧ k ≤ σ.rest.length ∧ s.length ≤ most ∧ σ' = { σ with rest := σ.rest.drop k, at' := σ.at' + k } := by
  unfold PSt.next at h
  split at h
  · cases h
  · rename_i h0
    split at h
    · cases h
    · split at h
      · cases h
      · split at h
        · cases h
        · cases h
          exact ⟨Classical.byContradiction fun e => h0 (.inl e), _, by omega, by rw [List.length_take]; omega, by omega, by rw [List.length_take]; omega, rfl⟩
theorem next_none {σ σ' : PSt} {most : Nat} (h : σ.next most = (.none, σ')) : σ' = σ ∨ ∃ e, σ' = σ.fail e σ.at' := by
  unfold PSt.next at h
  split at h
  · cases h; exact .inl rfl
  · split at h
    · cases h; exact .inr ⟨3, rfl⟩
    · split at h
      · cases h; exact .inl rfl
      · split at h
        · cases h; exact .inr ⟨4, rfl⟩
        · cases h
theorem FitJ.fail {n : Nat} {σ : PSt} (h : FitJ n σ) (e p : Int) : FitJ n (σ.fail e p) := by
  obtain ⟨h1, h2, h3, h4, h5, h6⟩ := h
  obtain ⟨q1, q2, q3, q4, q5⟩ := fail_above σ e p
  exact ⟨by rw [q4]; omega, by rw [q4]; exact h2, by rw [q2, q4]; exact h3, by rw [q1, q4]; exact h4, by rw [q3, q4]; exact h5, fun o ho => by rw [q4]; exact h6 o (by rwa [q1] at ho)⟩
theorem did_fail {B b : Nat} {tail : List Value} {ts : List (Job × Value)} {σ : PSt} {w w' : World} {ed : Ending} (may : List (List UInt8)) (act : Act1) (s : List UInt8) (p : Int) (hm : s ∉ may) (he : ed = .returned (.tuple #[])) (h : PA B b tail ts (σ.fail 5 p) w') (hk : Kp B [TB] w w') : Did B b tail ts (doJob (.word may act) s p σ) w ed w' := by
  have e : doJob (.word may act) s p σ = ([], σ.fail 5 p) := by simp only [doJob, if_neg hm]
  rw [e]
  exact Did.plain he rfl h hk (by simp)
theorem did_act {B b : Nat} {tail : List Value} {ts : List (Job × Value)} {σ : PSt} {w w' : World} {ed : Ending} (may : List (List UInt8)) (act : Act1) (s : List UInt8) (p : Int) (hm : s ∈ may) (h : Did B b tail ts (doAct act s p σ) w ed w') : Did B b tail ts (doJob (.word may act) s p σ) w ed w' := by
  have e : doJob (.word may act) s p σ = doAct act s p σ := by simp only [doJob, if_pos hm]
  rw [e]
  exact h

theorem func_nil (w : World) : Sem.run Tryd.prog (binOp BinOp.neq 91 Value.nilFunc Value.nilFunc) w = .ok (.bool false) w := by kernel_rfl
theorem func_some (w : World) (fn : Fn) (x y : Array Value) : Sem.run Tryd.prog (binOp BinOp.neq 91 (Value.func fn x y) Value.nilFunc) w = .ok (.bool true) w := by kernel_rfl
set_option maxHeartbeats 1600000 in
set_option maxRecDepth 100000 in
theorem word1_any {B b : Nat} {tail : List Value} {ts : List (Job × Value)} {σ : PSt} {w : World} (h : PA B b tail ts σ w) (may : List (List UInt8)) (act : Act1) (s : ByteArray) (p : Int) (bm bp bt : Nat) (vm : Value)
    (hbm : Blk w bm #[vm] 39) (hsm : Sl w 0 9 1 vm may.length (svs may)) (hbp : Blk w bp #[.pointer (some ⟨b, 0, none⟩)] 89) (hbt : Blk w bt #[actV b act] 91)
    (hl : σ.nodes.length ≤ 1099511627776) (ha : σ.above.length ≤ 1099511627776) (ht : ts.length ≤ 1099511627000) (hne : (Job.word may act).needs = true → 1 ≤ σ.above.length) :
    Calls Tryd.prog 68 #[.string s, .int .i64 p, .pointer (some ⟨bm, 0, none⟩), .pointer (some ⟨bp, 0, none⟩), .pointer (some ⟨bt, 0, none⟩)] w (Did B b tail ts (doJob (.word may act) s.data.toList p σ) w) := by
  have cm : w.cell? ⟨bm, 0, none⟩ = some vm := hbm.cell 0
  have cp : w.cell? ⟨bp, 0, none⟩ = some (.pointer (some ⟨b, 0, none⟩)) := hbp.cell 0
  have ct : w.cell? ⟨bt, 0, none⟩ = some (actV b act) := hbt.cell 0
  obtain ⟨a0, c0, rfl, -, -⟩ := hsm.shape
  have H0 := Lib.hid h
  have HS := Lib.hid hsm
  have HNE := Lib.hid hne
  clear h hbm hbp hbt hsm hne
  by_cases hm : s.data.toList ∈ may
  · have HD : Hid (decide (s.data.toList ∈ may) = true) := decide_eq_true hm
    have HM := Lib.hid hm
    clear hm
    have hn0 := func_nil w
    have hn1 : ∀ F : Nat, Sem.run Tryd.prog (binOp BinOp.neq 91 (Value.func (.func F) #[.pointer (some ⟨b, 0, none⟩)] #[]) Value.nilFunc) w = .ok (.bool true) w := fun F => func_some w _ _ _
    cases act
    all_goals (
      unfold actV at ct
      go_enter Tryd.func68, Tryd.ntmps68
      go_wp2_with fail
      refine (contains_any may _ s _ HS.out).mono ?_
      rintro e w1 ⟨rfl, rfl⟩
      rw [HD.out]
      go_wp2_with fail)
    · go_end0
      exact did_act _ _ _ _ HM.out (Did.plain (Ts := []) rfl rfl H0.out (Kp.refl _ _ _) (by simp))
    · refine (open_any H0.out s p hl ha).mono ?_
      rintro e w1 ⟨rfl, h1, k1⟩
      have H1 := Lib.hid h1
      have K1 := Lib.hid k1
      clear h1 k1
      go_wp2_with fail
      go_end0
      exact did_act _ _ _ _ HM.out (Did.plain rfl (by simp only [doAct]) H1.out K1.out (by simp))
    · refine (kind_any H0.out s p hl ha ht).mono ?_
      rintro e w1 hd
      obtain rfl := hd.1
      have HDD := Lib.hid hd
      clear hd
      go_wp2_with fail
      go_end0
      exact did_act _ _ _ _ HM.out HDD.out
    · refine (file_any H0.out s p ht).mono ?_
      rintro e w1 hd
      obtain rfl := hd.1
      have HDD := Lib.hid hd
      clear hd
      go_wp2_with fail
      go_end0
      exact did_act _ _ _ _ HM.out HDD.out
    · refine (dir_any H0.out s p ha (HNE.out rfl) ht).mono ?_
      rintro e w1 hd
      obtain rfl := hd.1
      have HDD := Lib.hid hd
      clear hd
      go_wp2_with fail
      go_end0
      exact did_act _ _ _ _ HM.out HDD.out
  · have HD : Hid (decide (s.data.toList ∈ may) = false) := decide_eq_false hm
    have HM : Hid (s.data.toList ∉ may) := hm
    clear hm ct
    go_enter Tryd.func68, Tryd.ntmps68
    go_wp2_with fail
    refine (contains_any may _ s _ HS.out).mono ?_
    rintro e w1 ⟨rfl, rfl⟩
    rw [HD.out]
    go_wp2_with fail
    refine (fail_any H0.out 5 p).mono ?_
    rintro e w1 ⟨rfl, h1, k1⟩
    have H1 := Lib.hid h1
    have K1 := Lib.hid k1
    clear h1 k1
    go_wp2_with fail
    go_end0
    exact did_fail _ _ _ _ HM.out rfl H1.out K1.out
end Go.Proofs.YtflkafnhhadphaaDoor
