/- The law Names: the document's errors, kinds and bounds have their numbers; no condition. -/
import Derived.Test.YtmonaegobncibaaRows
import Derived.WalkKit
import Derived.ProofKit
import Derived.OpenShut
import Derived.Lib.Hide
namespace Go.Proofs.Ytmonaegobncibaa.names
open Go.ChangeShapes Go.WideShapes Go.ChangeAt Go.RowKit
set_option linter.unusedVariables false      -- a walk need not use every 'w<i>' (that an integer argument fits its kind)

theorem own : ownKnob Try.prog.godebug = none := by kernel_rfl

theorem num_any (n : Int) (w : World) :
    Calls Try.prog 5 #[.int .i64 n] w fun e w' => e = .returned (.int .i64 n) ∧ w = w' := by
  go_enter Try.func5, Try.ntmps5
  go_wp2
  go_ret
  exact ⟨rfl, rfl⟩
theorem err_at (k : Nat) (hk : k < 18) : (#[Value.int .i64 0, .int .i64 1, .int .i64 2, .int .i64 3, .int .i64 4, .int .i64 5, .int .i64 6, .int .i64 7, .int .i64 8, .int .i64 9, .int .i64 10, .int .i64 11, .int .i64 12, .int .i64 13, .int .i64 14, .int .i64 15, .int .i64 16, .int .i64 17])[k]? = some (.int .i64 k) := by
  rcases k with _ | _ | _ | _ | _ | _ | _ | _ | _ | _ | _ | _ | _ | _ | _ | _ | _ | _ | k <;> first | rfl | omega
theorem kind_at (k : Nat) (hk : k < 4) : (#[Value.int .i64 1, .int .i64 2, .int .i64 3, .int .i64 4])[k]? = some (.int .i64 (k + 1)) := by
  rcases k with _ | _ | _ | _ | k <;> first | rfl | omega

def Errs (w : World) (b : Nat) : Prop := ∀ k : Nat, k < 18 → w.cell? ⟨b, k, none⟩ = some (.int .i64 k)
def Kinds (w : World) (b : Nat) : Prop := ∀ k : Nat, k < 4 → w.cell? ⟨b, k, none⟩ = some (.int .i64 (k + 1))

set_option maxHeartbeats 400000 in
theorem walk (w : World) :
    Calls Try.prog 3 #[] w fun e w' => e = .returned (.bool true) ∧ Grown w w' := by
  go_enter Try.func3, Try.ntmps3
  go_wp2
  go_loopw [10] (fun i wr => ∃ k : Nat, k ≤ 18 ∧ i = .int .i64 k ∧ Errs wr w.heap.size ∧ Grown w wr) (fun i _ => 18 - (intOf i).toNat)
  case atStart => exact ⟨0, by omega, rfl, fun k hk => by rw [World.cell?_alloc_new]; exact err_at k hk, (Grown.refl _).alloc _ _⟩
  case round =>
    obtain ⟨k, hk, rfl, he, hg⟩ := hrel
    have HG := Lib.hid hg
    clear hg
    by_cases hlt : k < 18
    · have hc := he k hlt
      have hn : ((k : Int) != (k : Int)) = false := by simp
      go_wp2_with (go_at_call 5; refine (num_any _ _).mono ?_; rintro e w' ⟨rfl, rfl⟩)
      go_roundw
      case rel => exact ⟨k + 1, by omega, by go_num, he, HG.out⟩
      case measure => simp [intOf]; omega
    · obtain ⟨wo, rfl⟩ : ∃ wo : World, wo = wr := ⟨_, rfl⟩
      go_wp2
      go_loopw [23] (fun i wr => ∃ k : Nat, k ≤ 4 ∧ i = .int .i64 k ∧ (∃ b, Kinds wr b ∧ b = wo.heap.size) ∧ Grown w wr) (fun i _ => 4 - (intOf i).toNat)
      case atStart => exact ⟨0, by omega, rfl, ⟨_, fun k hk => by rw [World.cell?_alloc_new]; exact kind_at k hk, rfl⟩, HG.out.alloc _ _⟩
      case round =>
        obtain ⟨j, hj, rfl, hb, hg⟩ := hrel
        have HG := Lib.hid hg
        clear hg he
        by_cases hlt' : j < 4
        · have hc : wr.cell? ⟨wo.heap.size, j, none⟩ = some (.int .i64 (j + 1)) := by obtain ⟨b, hb, rfl⟩ := hb; exact hb j hlt'
          have HB := Lib.hid hb
          clear hb
          have hn : ((j : Int) + 1 != (j : Int) + 1) = false := by simp
          go_wp2
          go_roundw
          case rel => exact ⟨j + 1, by omega, by go_num, HB.out, HG.out⟩
          case measure => simp [intOf]; omega
        · clear hb
          go_wp2
          go_ret
          exact ⟨rfl, HG.out⟩
/-! ### THE ROW's STEP: WRITTEN OUT: LEAVE IT -/
set_option maxRecDepth 100000 in
theorem lifted (os : Os) (started : os.Started) (H : Type) (enc : TypeId × Value → H) :
    ReturnsInHanded {} Try.checked os 3 .any (Rows.namesSpec.pre6 enc Try.prog Try.f3 Rows.namesRow.domain false) (Rows.namesSpec.post enc Try.prog Try.f3 false true false false) := by
  refine returnsInHanded_of_change (C := Try.checked) own started (by kernel_rfl) Try.func3
    (ChangeSpec.witness6 (enc := enc) (C := Try.checked) false ⟨#[], #[], []⟩ 8 (by kernel_rfl) (by kernel_rfl) (by kernel_rfl) (by kernel_rfl)) ?_
  intro W base args ds gs before hval0 hW hcnd _
  have hval : ∀ (j : Nat) t v, Try.f3.params[j]? = some t → args[j]? = some v → Value.okWide Try.prog W .any base t v := hval0
  have hW' := hW
  obtain ⟨p, q, hA0, hV, rfl, hfz, hnd⟩ := hW
  have hA : DataW.TrodAll enc Try.prog W 0 (fun _ => true) true Try.f3.params.toList args.toList ds p := hA0
  rw [Try.params3] at hA hval
  obtain ⟨rfl, rfl, rfl⟩ := trodAll_none hA
  obtain ⟨rfl, rfl⟩ := trodVars_none hV
  clear hA0 hval0
  simp only [List.append_nil] at hW'
  refine (walk  W).mono fun e W' ⟨he, hg⟩ => ?_
  subst he
  exact ⟨_, rfl, post_of_same (pa := []) (pv := []) hW' (fun _ _ _ => (trodAll_cons_mk (shut_bool Try.underlying4 _) trodAll_mk0)) (fun sp _ => rfl) (fun _ _ => rfl) rfl
    (hg.frame _) hg.2.1 (ok_one (by kernel_rfl) rfl (okWide_bool_mk Try.underlying4 _))⟩

theorem over : Rows.namesRow.holds Try.pinned (OpenSpec.ofChange Rows.namesSpec) :=
  OpenClaim.holds_of_wide 3 Try.f3 rfl rfl rfl rfl rfl rfl rfl ⟨rfl, rfl, rfl, rfl, rfl⟩ rfl rfl rfl rfl rfl (by kernel_rfl) Try.func3 (by kernel_rfl)
    (of_decide_eq_true (by kernel_rfl)) (by unfold Func.isWrapper; first | (rw [if_pos (by decide +kernel)]; kernel_rfl) | (rw [if_neg (by decide +kernel)]; exact ⟨rfl, rfl⟩))
    (fun os started H enc _ => lifted os started H enc)

/-- ████ THE STATEMENT ████ -/
theorem proved : Rows.NamesSaid :=
  over
#print axioms proved
end Go.Proofs.Ytmonaegobncibaa.names
