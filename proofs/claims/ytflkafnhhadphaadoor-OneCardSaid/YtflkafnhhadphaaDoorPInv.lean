/- Plain: what the parser's state keeps: a directory stands on top wherever one is needed; how long things may grow. -/
import Derived.Test.YtflkafnhhadphaaDoorChecked
import Derived.Test.YtflkafnhhadphaaDoorRead
namespace Go.Proofs.YtflkafnhhadphaaDoor
open Go Go.RowKit
set_option linter.unusedVariables false

def Job.needs : Job → Bool
  | .word _ .dir => true
  | .name => true
  | _ => false
def Job.left (j : Job) (n : Nat) : Nat :=
  match j with
  | .word _ .dir => n - 1
  | _ => n
def OkJ : List Job → Nat → Prop
  | [], _ => True
  | j :: js, n => (j.needs = true → 1 ≤ n) ∧ OkJ js (j.left n)
theorem Job.left_le (j : Job) {n m : Nat} (h : n ≤ m) : j.left n ≤ j.left m := by
  unfold Job.left; split <;> omega
theorem OkJ.mono : ∀ {js : List Job} {n m : Nat}, OkJ js n → n ≤ m → OkJ js m
  | [], _, _, _, _ => trivial
  | j :: js, n, m, h, hm => ⟨fun hn => Nat.le_trans (h.1 hn) hm, OkJ.mono h.2 (j.left_le hm)⟩
theorem fail_above (σ : PSt) (e p : Int) : (σ.fail e p).above = σ.above ∧ (σ.fail e p).nodes = σ.nodes ∧ (σ.fail e p).path = σ.path ∧ (σ.fail e p).at' = σ.at' ∧ (σ.fail e p).rest.length ≤ σ.rest.length := by
  unfold PSt.fail; split
  · exact ⟨rfl, rfl, rfl, rfl, Nat.zero_le _⟩
  · exact ⟨rfl, rfl, rfl, rfl, Nat.le_refl _⟩
theorem okJ_plain {js : List Job} {n : Nat} (h : OkJ js n) (j : Job) (h1 : j.needs = false) (h2 : j.left n = n) : OkJ (j :: js) n := ⟨(fun e => by rw [h1] at e; cases e), (by rw [h2]; exact h)⟩
theorem okJ_dir {js : List Job} {n : Nat} (h : OkJ js (n - 1)) (h1 : 1 ≤ n) : OkJ (dirJob :: js) n := ⟨fun _ => h1, h⟩
theorem okJ_name {js : List Job} {n : Nat} (h : OkJ js n) (h1 : 1 ≤ n) : OkJ (.name :: js) n := ⟨fun _ => h1, h⟩
theorem okJ_node {js : List Job} {n : Nat} (h : OkJ js n) : OkJ (nodeJobs ++ js) n :=
  okJ_plain (okJ_plain (okJ_plain h _ rfl rfl) _ rfl rfl) _ rfl rfl
theorem okJ_step (j : Job) (js : List Job) (s : List UInt8) (p : Int) (σ : PSt) (h : OkJ (j :: js) σ.above.length) : OkJ ((doJob j s p σ).1 ++ js) (doJob j s p σ).2.above.length := by
  obtain ⟨h1, h2⟩ := h
  have hl : OkJ js σ.above.length := h2.mono (by unfold Job.left; split <;> omega)
  cases j with
  | word may act =>
    simp only [doJob]
    split
    · cases act <;> simp only [doAct]
      · exact hl
      · split
        · rw [(fail_above ..).1]; exact hl
        · split
          · rw [(fail_above ..).1]; exact hl
          · exact hl
      · split
        · exact okJ_plain hl _ rfl rfl
        · split
          · exact okJ_plain (okJ_plain (okJ_plain hl _ rfl rfl) _ rfl rfl) _ rfl rfl
          · split
            · rw [List.length_append]
              exact okJ_dir hl (by simp)
            · exact hl
      · split
        · exact okJ_plain (okJ_plain (okJ_plain (okJ_plain hl _ rfl rfl) _ rfl rfl) _ rfl rfl) _ rfl rfl
        · exact okJ_plain (okJ_plain hl _ rfl rfl) _ rfl rfl
      · have hn := h1 rfl
        split
        · rw [List.length_dropLast]; exact h2
        · rw [List.append_assoc, List.append_assoc]
          refine okJ_plain (okJ_plain (okJ_name (okJ_plain (okJ_node (okJ_plain (okJ_dir ?_ hn) _ rfl rfl)) _ rfl rfl) hn) _ rfl rfl) _ rfl rfl
          exact h2
    · rw [(fail_above ..).1]; exact hl
  | leads =>
    simp only [doJob]
    split
    · exact hl
    · show OkJ js (σ.fail 6 p).above.length
      rw [(fail_above ..).1]; exact hl
  | name =>
    have hn := h1 rfl
    simp only [doJob]
    rw [List.length_append, List.length_dropLast]
    have e : σ.above.length - 1 + [((σ.above.getLastD ([], [])).1, s)].length = σ.above.length := by simp; omega
    rw [e]
    exact hl
  | keep k => exact hl
/-- how long things may grow, with so many jobs -/
structure FitJ (n : Nat) (σ : PSt) : Prop where
  all : σ.at' + σ.rest.length ≤ 549755813888
  todo : n ≤ σ.at' + 4
  nodes : σ.nodes.length ≤ σ.at'
  above : σ.above.length ≤ σ.at'
  path : σ.path.length ≤ σ.at'
  dirs : ∀ o ∈ σ.above, o.1.length ≤ σ.at' ∧ o.2.length ≤ σ.at'
/-- with room for a string of length m that came -/
structure Room (n m : Nat) (σ : PSt) : Prop where
  all : σ.at' + σ.rest.length ≤ 549755813888
  todo : n + 8 ≤ σ.at' + 4
  nodes : σ.nodes.length + 8 ≤ σ.at'
  above : σ.above.length + 8 ≤ σ.at'
  path : σ.path.length + 8 ≤ σ.at'
  dirs : ∀ o ∈ σ.above, o.1.length + m + 8 ≤ σ.at' ∧ o.2.length ≤ σ.at'
  str : m ≤ σ.at'
theorem Room.of {n m k : Nat} {σ : PSt} (h : FitJ n σ) (hk : k ≤ σ.rest.length) (hm : m + 8 ≤ k) : Room n m { σ with rest := σ.rest.drop k, at' := σ.at' + k } := by
  obtain ⟨h1, h2, h3, h4, h5, h6⟩ := h
  refine ⟨by simp only [List.length_drop]; omega, by simp only; omega, by simp only; omega, by simp only; omega, by simp only; omega, fun o ho => ?_, by simp only; omega⟩
  have := h6 o ho
  simp only
  omega
theorem Room.fail {n m : Nat} {σ : PSt} (h : Room n m σ) (e p : Int) : Room n m (σ.fail e p) := by
  obtain ⟨h1, h2, h3, h4, h5, h6, h7⟩ := h
  obtain ⟨q1, q2, q3, q4, q5⟩ := fail_above σ e p
  exact ⟨by rw [q4]; omega, by rw [q4]; exact h2, by rw [q2, q4]; exact h3, by rw [q1, q4]; exact h4, by rw [q3, q4]; exact h5, fun o ho => by rw [q4]; exact h6 o (by rwa [q1] at ho), by rw [q4]; exact h7⟩
theorem Room.fit {n m i : Nat} {σ : PSt} (h : Room n m σ) (hi : i ≤ n + 8) : FitJ i σ := by
  obtain ⟨h1, h2, h3, h4, h5, h6, h7⟩ := h
  exact ⟨h1, by omega, by omega, by omega, by omega, fun o ho => by have := h6 o ho; omega⟩
theorem fit_add {n m i : Nat} {σ : PSt} (h : Room n m σ) (hi : i ≤ n + 8) (k : Int) (d : List UInt8) : FitJ i (σ.add k d) := by
  have hf := h.fit hi
  obtain ⟨h1, h2, h3, h4, h5, h6, h7⟩ := h
  exact ⟨h1, hf.todo, by simp only [PSt.add, List.length_append, List.length_cons, List.length_nil]; omega, hf.above, hf.path, hf.dirs⟩
theorem room_last {n m : Nat} {σ : PSt} (h : Room n m σ) : (σ.above.getLastD ([], [])).1.length + m + 8 ≤ σ.at' ∨ (σ.above.getLastD ([], [])).1 = [] := by
  rcases List.eq_nil_or_concat σ.above with e | ⟨l, o, e⟩
  · right; rw [e]; rfl
  · left
    rw [e, List.concat_eq_append, List.getLastD_concat]
    exact (h.dirs o (by rw [e, List.concat_eq_append]; simp)).1
theorem fit_step (j : Job) (s : List UInt8) (p : Int) (σ : PSt) (n : Nat) (h : Room (n + 1) s.length σ) : FitJ ((doJob j s p σ).1.length + n) (doJob j s p σ).2 := by
  cases j with
  | word may act =>
    simp only [doJob]
    split
    · cases act <;> simp only [doAct]
      · exact h.fit (by simp; omega)
      · split
        · exact (h.fail _ _).fit (by simp; omega)
        · split
          · exact (h.fail _ _).fit (by simp; omega)
          · exact h.fit (by simp; omega)
      · split
        · exact h.fit (by simp; omega)
        · split
          · exact h.fit (by simp; omega)
          · split
            · have hf := fit_add h (i := 1 + n) (by omega) 4 []
              obtain ⟨h1, h2, h3, h4, h5, h6, h7⟩ := h
              refine ⟨hf.all, hf.todo, hf.nodes, ?_, hf.path, fun o ho => ?_⟩
              · simp only [List.length_append, List.length_cons, List.length_nil, PSt.add]; omega
              · rcases List.mem_append.1 ho with ho | ho
                · exact hf.dirs o ho
                · obtain rfl := List.mem_singleton.1 ho
                  exact ⟨hf.path, Nat.zero_le _⟩
            · exact h.fit (by simp; omega)
      · split
        · exact h.fit (by simp; omega)
        · exact h.fit (by simp; omega)
      · split
        · have hf := h.fit (i := n) (by omega)
          refine ⟨hf.all, by simpa using hf.todo, hf.nodes, ?_, hf.path, fun o ho => hf.dirs o (List.dropLast_subset _ ho)⟩
          have := hf.above
          simp only [List.length_dropLast]; omega
        · exact h.fit (by simp [nodeJobs]; omega)
    · exact (h.fail _ _).fit (by simp; omega)
  | leads =>
    simp only [doJob]
    split
    · exact fit_add h (by simp; omega) _ _
    · exact fit_add (h.fail _ _) (by simp; omega) _ _
  | name =>
    have key : ∀ σ' : PSt, Room (n + 1) s.length σ' → σ'.above = σ.above → FitJ (([] : List Job).length + n) { σ' with above := σ.above.dropLast ++ [((σ.above.getLastD ([], [])).1, s)], path := joinP (σ.above.getLastD ([], [])).1 s } := by
      intro σ' h' ha
      have hf := h'.fit (i := n) (by omega)
      have hlast := room_last h'
      rw [ha] at hlast
      have hd := h'.dirs
      have hab := h'.above
      have hst := h'.str
      rw [ha] at hd hab
      generalize σ.above.getLastD ([], []) = t at *
      refine ⟨hf.all, by simpa using hf.todo, hf.nodes, ?_, ?_, fun o ho => ?_⟩
      · simp only [List.length_append, List.length_dropLast, List.length_cons, List.length_nil]; omega
      · simp only [joinP]
        split
        · exact hst
        · rename_i hne
          rcases hlast with h1 | h1
          · simp only [List.length_append, List.length_cons]; omega
          · exact absurd h1 hne
      · rcases List.mem_append.1 ho with ho | ho
        · have := hd o (List.dropLast_subset _ ho)
          simp only
          omega
        · obtain rfl := List.mem_singleton.1 ho
          refine ⟨?_, hst⟩
          rcases hlast with h1 | h1
          · simp only; omega
          · rw [h1]; exact Nat.zero_le _
    simp only [doJob]
    refine key _ ?_ ?_
    · split
      · exact h.fail _ _
      · split
        · exact h.fail _ _
        · exact h
    · split
      · exact (fail_above ..).1
      · split
        · exact (fail_above ..).1
        · rfl
  | keep k => exact fit_add h (i := 0 + n) (by omega) k s |> fun h2 => by rw [Nat.zero_add] at h2; exact (by simpa [doJob] using h2)
end Go.Proofs.YtflkafnhhadphaaDoor
