/- The law Packs: the walks. -/
import Derived.Test.YtdkogijdfgfpeaaGreatDoorChecked
import Derived.Test.YtdkogijdfgfpeaaGreatDoorTree
namespace Go.Proofs.YtdkogijdfgfpeaaGreatDoor
open Go Go.RowKit
set_option linter.unusedVariables false

/-- every path and every content of a list of nodes is within the reach -/
def NodesReach (l : List Node) : Prop := ∀ n ∈ l, n.path.length ≤ 140737488355328 ∧ n.data.length ≤ 140737488355328
def weightGo : List Node → Int → Int
  | [], n => n
  | x :: r, n => if 262144 < n + (x.path.length + x.data.length) then n + (x.path.length + x.data.length) else weightGo r (n + (x.path.length + x.data.length))
def weightL (l : List Node) : Int := weightGo l l.length

set_option maxHeartbeats 800000 in
set_option maxRecDepth 100000 in
theorem weight_any (v : Value) (l : List Node) (w : World) (hv : Rd w 3 v l.length (nodeCells l)) (hfit : NodesReach l) (hl47 : l.length ≤ 140737488355328) :
    Calls Tryz.prog 30 #[v] w fun e w' => e = .returned (.int .i64 (weightL l)) ∧ Keeps Non w w' := by
  obtain ⟨a, cap, rfl, hl63, hcm⟩ := hv.shape
  unfold maxLen at hcm
  have HV := Lib.hid hv
  have HFIT := Lib.hid hfit
  clear hv hfit
  go_enter Tryz.func30, Tryz.ntmps30
  go_wp2_with fail
  go_loopg [3, 10] l.length (fun gk n i wr => ∃ (k : Nat) (z : Int), gk = l.length - k ∧ k ≤ l.length ∧ i = .int .i64 k ∧ n = .int .i64 z ∧ 0 ≤ z ∧ z ≤ 140737488355328 ∧ Hid (Keeps Non w wr) ∧ Hid (weightL l = weightGo (l.drop k) z))
  case atStart => exact ⟨0, l.length, rfl, Nat.zero_le _, rfl, rfl, by omega, by omega, Keeps.refl _ _, rfl⟩
  case round =>
    obtain ⟨k, z, rfl, hk, rfl, rfl, hz0, hz1, HK, HW⟩ := hrel
    by_cases hlt : k < l.length
    · have hg : Hid (weightL l = weightGo (l[k] :: l.drop (k + 1)) z) := by show _ = _; rw [HW.out, List.drop_eq_getElem_cons hlt]
      have hat := nodeCells_at l k hlt
      have hf := HFIT.out l[k] (List.getElem_mem hlt)
      obtain ⟨b, off, cp, hsh, -, -, -, hbl, hc, -⟩ := HV.out.pos (by omega)
      cases hsh
      have hbelow := HK.out.below (Nat.le_refl _) (fun _ _ h => h)
      generalize l[k] = N at *
      obtain ⟨p, kd, da⟩ := N
      simp only at hat hf
      have c0 : wr.cell? ⟨b, off + k * 3, none⟩ = some (sv p) := (hbelow.cell (p := ⟨b, off + k * 3, none⟩) hbl).trans ((hc _ (by omega)).trans hat.1)
      have c1 : wr.cell? ⟨b, off + k * 3 + 1, none⟩ = some (.int .i64 kd) := (hbelow.cell (p := ⟨b, off + k * 3 + 1, none⟩) hbl).trans ((hc _ (by omega)).trans hat.2.1)
      have c2 : wr.cell? ⟨b, off + k * 3 + 2, none⟩ = some (sv da) := (hbelow.cell (p := ⟨b, off + k * 3 + 2, none⟩) hbl).trans ((hc _ (by omega)).trans hat.2.2)
      unfold sv at c0 c2
      have hp47 := hf.1
      have hd47 := hf.2
      clear hat hc hbelow HW hf
      go_upto_region 5 with (fail)
      obtain ⟨w1, hw1⟩ : ∃ w1, wr.alloc (.cells #[.string ⟨p.toArray⟩, .int .i64 kd, .string ⟨da.toArray⟩] 49) = w1 := ⟨_, rfl⟩
      have hbox : Blk w1 wr.heap.size #[.string ⟨p.toArray⟩, .int .i64 kd, .string ⟨da.toArray⟩] 49 := by rw [← hw1]; exact Blk.new _ _ _
      have HK1 : Hid (Keeps Non w w1) := by rw [← hw1]; exact HK.out.alloc _
      rw [hw1]
      clear hw1 c0 c1 c2
      have n0 : w1.cell? ⟨wr.heap.size, 0, none⟩ = some (.string ⟨p.toArray⟩) := hbox.cell 0
      have n2 : w1.cell? ⟨wr.heap.size, 2, none⟩ = some (.string ⟨da.toArray⟩) := hbox.cell 2
      clear hbox
      by_cases hg2 : 262144 < z + (p.length + da.length)
      · have hd : decide ((262144 : Int) < z + ((p.length : Int) + (da.length : Int))) = true := by simpa using hg2
        have HF : Hid (weightL l = z + (p.length + da.length)) := by show _ = _; rw [hg.out, weightGo, if_pos hg2]
        clear hg
        go_wp2_with fail
        go_ret
        exact ⟨int_ret HF.out.symm, HK1.out⟩
      · have hd : decide ((262144 : Int) < z + ((p.length : Int) + (da.length : Int))) = false := by simpa using hg2
        have HF : Hid (weightL l = weightGo (l.drop (k + 1)) (z + (p.length + da.length))) := by show _ = _; rw [hg.out, weightGo, if_neg hg2]
        clear hg
        go_wp2_with fail
        go_roundg (l.length - (k + 1))
        case measure => omega
        case rel => exact ⟨k + 1, z + (p.length + da.length), rfl, by omega, by go_num, by go_num, by omega, by omega, HK1, HF⟩
    · have HF : Hid (weightL l = z) := by show _ = _; rw [HW.out, List.drop_eq_nil_of_le (by omega)]; rfl
      clear HW
      go_wp2_with fail
      go_ret
      exact ⟨int_ret HF.out.symm, HK.out⟩

theorem weightGo_le : ∀ (l : List Node) (n : Int), 0 ≤ n → weightGo l n ≤ 262144 → n + (l.map fun x => (x.path.length : Int) + x.data.length).sum ≤ 262144
  | [], n, _, h => by simpa [weightGo] using h
  | x :: r, n, h0, h => by
    unfold weightGo at h
    split at h
    · omega
    · have := weightGo_le r _ (by omega) h
      simp only [List.map_cons, List.sum_cons]
      omega
theorem weight_le {l : List Node} (h : weightL l ≤ 262144) : l.length + (l.map fun x => x.path.length + x.data.length).sum ≤ 262144 := by
  have h1 := weightGo_le l l.length (by omega) h
  have h2 : ∀ l : List Node, (l.map fun x => (x.path.length : Int) + x.data.length).sum = ((l.map fun x => x.path.length + x.data.length).sum : Nat) := by
    intro l
    induction l with
    | nil => rfl
    | cons x r ih => simp only [List.map_cons, List.sum_cons, ih]; omega
  rw [h2] at h1
  omega
theorem sum_mem {l : List Node} {x : Node} (hx : x ∈ l) : x.path.length + x.data.length ≤ (l.map fun x => x.path.length + x.data.length).sum := by
  induction l with
  | nil => simp at hx
  | cons y r ih =>
    simp only [List.map_cons, List.sum_cons]
    rcases List.mem_cons.1 hx with rfl | hx
    · omega
    · have := ih hx; omega
theorem wrong_len : ∀ (r : List Node) (k : Nat) (st : Opens), wrongGo r k st = -1 → k ≤ 30 → k + r.length ≤ 30
  | [], k, _, _, h => h
  | x :: r, k, st, hw, h => by
    unfold wrongGo at hw
    cases ho : nodeOk k x st with
    | none => rw [ho] at hw; simp only at hw; omega
    | some st' =>
      rw [ho] at hw
      have hk : k ≠ 30 := by
        intro e
        unfold nodeOk at ho
        rw [if_pos (.inl e)] at ho
        cases ho
      have := wrong_len r (k + 1) _ hw (by omega)
      simp only [List.length_cons]
      omega
/- the length of the bytes -/
theorem closeT_le (r : List (List UInt8)) : (closeT r).length ≤ 40 := by
  unfold closeT
  have := putAll_le [[41]]
  simp only [roomOf, List.map_cons, List.sum_cons, List.length_cons, List.length_nil, List.map_nil, List.sum_nil] at this
  rw [List.length_append]
  split
  · simp; omega
  · omega
theorem unwind_len (p : List UInt8) : ∀ st : List (List UInt8), (unwind p st).1.length + 40 * (unwind p st).2.length ≤ 40 * st.length
  | [] => by simp [unwind]
  | d :: r => by
    unfold unwind
    split
    · simp
    · have := unwind_len p r
      have := closeT_le r
      simp only [List.length_append, List.length_cons]
      omega
theorem unwindAll_len : ∀ st : List (List UInt8), (unwindAll st).length ≤ 40 * st.length
  | [] => by simp [unwindAll]
  | d :: r => by
    have := unwindAll_len r
    have := closeT_le r
    simp only [unwindAll, List.length_append, List.length_cons]
    omega
theorem packGo_len : ∀ (l : List Node) (k : Nat) (st : List (List UInt8)), (packGo l k st).length ≤ (l.map fun x => x.path.length + x.data.length + 400).sum + 40 * st.length
  | [], _, st => by simpa [packGo] using unwindAll_len st
  | x :: r, k, st => by
    have h1 := unwind_len x.path st
    have h2 := packGo_len r (k + 1) (x.path :: (unwind x.path st).2)
    have h3 := packGo_len r (k + 1) (unwind x.path st).2
    have hh : (headT k x.path).length ≤ x.path.length + 120 := by
      unfold headT
      split
      · simp
      · refine Nat.le_trans (putAll_le _) ?_
        have := baseL_le x.path
        simp only [roomOf, List.map_cons, List.sum_cons, List.length_cons, List.length_nil, List.map_nil, List.sum_nil]
        omega
    have ht : typeT.length ≤ 50 := by
      refine Nat.le_trans (putAll_le _) ?_
      simp [roomOf]
    have hd : (putAll [[100, 105, 114]]).length ≤ 30 := by
      refine Nat.le_trans (putAll_le _) ?_
      simp [roomOf]
    have hl : (leafT x.kind x.data).length ≤ x.data.length + 130 := by
      unfold leafT
      split
      · refine Nat.le_trans (putAll_le _) ?_
        simp only [roomOf, List.map_cons, List.sum_cons, List.length_cons, List.length_nil, List.map_nil, List.sum_nil]
        omega
      · split
        · refine Nat.le_trans (putAll_le _) ?_
          simp only [roomOf, List.map_cons, List.sum_cons, List.length_cons, List.length_nil, List.map_nil, List.sum_nil]
          omega
        · refine Nat.le_trans (putAll_le _) ?_
          simp only [roomOf, List.map_cons, List.sum_cons, List.length_cons, List.length_nil, List.map_nil, List.sum_nil]
          omega
    have htl : (tailT k).length ≤ 20 := by
      unfold tailT
      split
      · simp
      · refine Nat.le_trans (putAll_le _) ?_
        simp [roomOf]
    simp only [packGo, List.length_append, List.map_cons, List.sum_cons]
    simp only [List.length_cons] at h2
    split
    · simp only [List.length_append]; omega
    · simp only [List.length_append]; omega
theorem sum_add (l : List Node) (c : Nat) : (l.map fun x => x.path.length + x.data.length + c).sum = (l.map fun x => x.path.length + x.data.length).sum + c * l.length := by
  induction l with
  | nil => simp
  | cons x r ih => simp only [List.map_cons, List.sum_cons, ih, List.length_cons, Nat.mul_add]; omega
theorem packP_len (l : List Node) : (packP l).length ≤ (l.map fun x => x.path.length + x.data.length).sum + 400 * l.length + 40 := by
  unfold packP
  have h1 := packGo_len l 0 []
  have h2 : (putAll [[110, 97, 114, 45, 49]]).length ≤ 40 := by
    refine Nat.le_trans (putAll_le _) ?_
    simp [roomOf]
  rw [sum_add] at h1
  simp only [List.length_append, List.length_nil] at h1 ⊢
  omega
theorem wrongGo_range : ∀ (r : List Node) (k : Nat) (st : Opens), wrongGo r k st = -1 ∨ (k : Int) ≤ wrongGo r k st ∧ wrongGo r k st < k + r.length
  | [], _, _ => .inl rfl
  | x :: r, k, st => by
    unfold wrongGo
    cases nodeOk k x st with
    | none => right; simp only [List.length_cons]; omega
    | some st' =>
      simp only [List.length_cons]
      rcases wrongGo_range r (k + 1) (pushD x st') with h | ⟨h1, h2⟩
      · exact .inl h
      · right; omega
theorem wrong_range (l : List Node) : wrongL l = -1 ∨ 0 ≤ wrongL l := by
  unfold wrongL
  split
  · right; omega
  · rcases wrongGo_range l 0 [] with h | h
    · exact .inl h
    · right; omega

set_option maxHeartbeats 800000 in
set_option maxRecDepth 100000 in
/-- two lists of the same nodes are the same -/
theorem sameTree_any (v v' : Value) (l : List Node) (w : World) (hv : Rd w 3 v l.length (nodeCells l)) (hv' : Rd w 3 v' l.length (nodeCells l)) (hl47 : l.length ≤ 140737488355328) :
    Calls Tryz.prog 102 #[v, v'] w fun e w' => e = .returned (.bool true) ∧ Keeps Non w w' := by
  obtain ⟨a, cap, rfl, hl63, hcm⟩ := hv.shape
  obtain ⟨a', cap', rfl, hl63', hcm'⟩ := hv'.shape
  unfold maxLen at hcm hcm'
  have HV := Lib.hid hv
  have HV' := Lib.hid hv'
  clear hv hv'
  go_enter Tryz.func102, Tryz.ntmps102
  go_wp2_with fail
  go_loopg [13] l.length (fun gk i wr => ∃ k : Nat, gk = l.length - k ∧ k ≤ l.length ∧ i = .int .i64 k ∧ Hid (Keeps Non w wr))
  case atStart => exact ⟨0, rfl, Nat.zero_le _, rfl, Keeps.refl _ _⟩
  case round =>
    obtain ⟨k, rfl, hk, rfl, HK⟩ := hrel
    by_cases hlt : k < l.length
    · have hat := nodeCells_at l k hlt
      obtain ⟨b, off, cp, hsh, -, -, -, hbl, hc, -⟩ := HV.out.pos (by omega)
      cases hsh
      obtain ⟨b', off', cp', hsh, -, -, -, hbl', hc', -⟩ := HV'.out.pos (by omega)
      cases hsh
      have hbelow := HK.out.below (Nat.le_refl _) (fun _ _ h => h)
      generalize l[k] = N at *
      obtain ⟨p, kd, da⟩ := N
      simp only at hat
      have c0 : wr.cell? ⟨b, off + k * 3, none⟩ = some (sv p) := (hbelow.cell (p := ⟨b, off + k * 3, none⟩) hbl).trans ((hc _ (by omega)).trans hat.1)
      have c1 : wr.cell? ⟨b, off + k * 3 + 1, none⟩ = some (.int .i64 kd) := (hbelow.cell (p := ⟨b, off + k * 3 + 1, none⟩) hbl).trans ((hc _ (by omega)).trans hat.2.1)
      have c2 : wr.cell? ⟨b, off + k * 3 + 2, none⟩ = some (sv da) := (hbelow.cell (p := ⟨b, off + k * 3 + 2, none⟩) hbl).trans ((hc _ (by omega)).trans hat.2.2)
      have d0 : wr.cell? ⟨b', off' + k * 3, none⟩ = some (sv p) := (hbelow.cell (p := ⟨b', off' + k * 3, none⟩) hbl').trans ((hc' _ (by omega)).trans hat.1)
      have d1 : wr.cell? ⟨b', off' + k * 3 + 1, none⟩ = some (.int .i64 kd) := (hbelow.cell (p := ⟨b', off' + k * 3 + 1, none⟩) hbl').trans ((hc' _ (by omega)).trans hat.2.1)
      have d2 : wr.cell? ⟨b', off' + k * 3 + 2, none⟩ = some (sv da) := (hbelow.cell (p := ⟨b', off' + k * 3 + 2, none⟩) hbl').trans ((hc' _ (by omega)).trans hat.2.2)
      unfold sv at c0 c2 d0 d2
      clear hat hc hc' hbelow
      have q2 : (0 : Int) ≤ (k : Int) := by omega
      have q3 : (k : Int) < (l.length : Int) := by omega
      have q4 : IntKind.i64.wrap (k : Int) = (k : Int) := IntWalk.i64_in _ (by omega)
      go_upto_region 6 with (fail)
      go_quiet (fail)
      go_wp2_with fail
      go_roundg (l.length - (k + 1))
      case measure => omega
      case rel => exact ⟨k + 1, rfl, by omega, by go_num, HK.out.drewN _⟩
    · go_wp2_with fail
      go_ret
      exact ⟨rfl, HK.out⟩

set_option maxHeartbeats 800000 in
set_option maxRecDepth 100000 in
theorem npack_good (v : Value) (l : List Node) (w : World) (hv : Rd w 3 v l.length (nodeCells l)) (hT : Tabs w) (hfit : NodesSmall l) (h : wrongL l = -1) (hlen : (packP l).length ≤ 70368744177664) :
    Calls Tryz.prog 27 #[v] w fun e w' => e = .returned (.tuple #[.string ⟨(packP l).toArray⟩, .int .i64 0, .int .i64 0]) ∧ Keeps Non w w' := by
  have hl30 : l.length ≤ 1000 := by
    unfold wrongL at h
    split at h
    · omega
    · have := wrong_len l 0 [] h (by omega); omega
  have HV := Lib.hid hv
  have HT := Lib.hid hT
  have HFIT := Lib.hid hfit
  have HW := Lib.hid h
  have HL := Lib.hid hlen
  clear hv hT hfit h hlen
  go_enter Tryz.func27, Tryz.ntmps27
  go_wp2_with fail
  refine (wrong_any v l _ HV.out HT.out (fun n hn => by have := HFIT.out n hn; omega)).mono ?_
  rintro e w1 ⟨rfl, hk1⟩
  have HK1 := Lib.hid hk1
  clear hk1
  rw [HW.out]
  go_wp2_with fail
  refine (pack_any v l _ (HV.out.non HK1.out) hl30 HFIT.out HL.out).mono ?_
  rintro e w2 ⟨rfl, hk2⟩
  have HK2 := Lib.hid (HK1.out.trans hk2 (fun k hk => .inl hk))
  clear hk2
  go_wp2_with fail
  go_ret3
  exact ⟨rfl, HK2.out⟩
set_option maxHeartbeats 800000 in
set_option maxRecDepth 100000 in
theorem npack_bad (v : Value) (l : List Node) (w : World) (hv : Rd w 3 v l.length (nodeCells l)) (hT : Tabs w) (hfit : NodesSmall l) (z : Int) (h : wrongL l = z) (hz : 0 ≤ z) :
    Calls Tryz.prog 27 #[v] w fun e w' => e = .returned (.tuple #[.string ⟨#[]⟩, .int .i64 1, .int .i64 z]) ∧ Keeps Non w w' := by
  have HV := Lib.hid hv
  have HT := Lib.hid hT
  have HFIT := Lib.hid hfit
  have HW := Lib.hid h
  clear hv hT hfit h
  go_enter Tryz.func27, Tryz.ntmps27
  go_wp2_with fail
  refine (wrong_any v l _ HV.out HT.out (fun n hn => by have := HFIT.out n hn; omega)).mono ?_
  rintro e w1 ⟨rfl, hk1⟩
  have HK1 := Lib.hid hk1
  clear hk1
  rw [HW.out]
  go_wp2_with fail
  go_ret3
  exact ⟨rfl, HK1.out⟩
set_option maxHeartbeats 800000 in
set_option maxRecDepth 100000 in
theorem rPack_any (v : Value) (l : List Node) (w : World) (hv : Rd w 3 v l.length (nodeCells l)) (hfit : NodesSmall l) (h : wrongL l = -1) (hlen : (packP l).length ≤ 70368744177664) :
    Calls Tryz.prog 105 #[v] w fun e w' => e = .returned (.string ⟨(packP l).toArray⟩) ∧ Keeps Non w w' := by
  have hp := pack_ref h
  have hl2 : (refPackL l).length ≤ 70368744177664 := by rw [hp] at hlen; simp at hlen; omega
  have hl3 : (putL [110, 97, 114, 45, 49]).length ≤ 100 := by rw [putL_length]; have := padN_lt 5; simp; omega
  have hne : l ≠ [] := by rintro rfl; simp [wrongL] at h
  have HV := Lib.hid hv
  have HFIT := Lib.hid hfit
  have HP := Lib.hid hp
  have HNE := Lib.hid hne
  clear hv hfit h hlen hp hne
  go_enter Tryz.func105, Tryz.ntmps105
  go_wp2_with fail
  refine (rstr_any [110, 97, 114, 45, 49] _ (by simp)).mono ?_
  rintro e w1 ⟨rfl, hk1⟩
  have HK1 := Lib.hid hk1
  clear hk1
  go_wp2_with fail
  refine (rpack_any l.length l v _ (Nat.le_refl _) HNE.out (HV.out.non HK1.out) HFIT.out hl2).mono ?_
  rintro e w2 ⟨rfl, hk2⟩
  have HK2 := Lib.hid (HK1.out.trans hk2 (fun k hk => .inl hk))
  clear hk2
  go_wp2_with fail
  go_ret
  exact ⟨str_ret (by rw [str_app, HP.out]), HK2.out⟩

theorem nodeCells_small {l : List Node} (h : weightL l ≤ 262144) : NodesSmall l := fun n hn => by
  have h1 := weight_le h
  have h2 := sum_mem hn
  omega
end Go.Proofs.YtdkogijdfgfpeaaGreatDoor
