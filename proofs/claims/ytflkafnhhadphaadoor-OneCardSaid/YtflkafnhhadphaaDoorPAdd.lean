/- (*tree.Parser).add, open, leads, name; slices.Contains. -/
import Derived.Test.YtflkafnhhadphaaDoorChecked
import Derived.Test.YtflkafnhhadphaaDoorPPlan
import Derived.Laws.EntriesVeiled
namespace Go.Proofs.YtflkafnhhadphaaDoor
open Go Go.RowKit
set_option linter.unusedVariables false

theorem infoNode : (Tryd.prog.info? 34).map (fun i => (i.zero, i.size, i.bytes)) = some (some (.agg #[.string ⟨#[]⟩, .int .i64 0, .string ⟨#[]⟩]), 3, 40) := by kernel_rfl
/-- a node laid onto the others -/
theorem add_step {B b : Nat} {tail : List Value} {ts : List (Job × Value)} {σ : PSt} {w w1 : World} {vr vt vl va : Value} (H : PAt B b tail ts σ w vr vt vl va) (k : Int) (d : List UInt8) (C : Array Value) (ao : Option Addr) (cc n : Nat) (hn : n = σ.nodes.length + 1)
    (hs : Sl w1 B 34 3 (.slice ao n cc) n (nodeCells σ.nodes ++ [sv σ.path, .int .i64 k, sv d])) (hk : Kp B [34] (w.alloc (.cells C 34)) w1) :
    PAt B b tail ts (σ.add k d) (w1.setCell ⟨b, 5, none⟩ (.slice ao n cc)) vr vt (.slice ao n cc) va ∧ Kp B [34, TB] w (w1.setCell ⟨b, 5, none⟩ (.slice ao n cc)) := by
  subst hn
  have hk0 : Kp B [34] w w1 := ((Kp.refl _ _ _).alloc _).trans hk
  have b1 := H.blk.kp hk0 (.inr (by decide))
  have k2 : Kp B [TB] w1 (w1.setCell ⟨b, 5, none⟩ (.slice ao (σ.nodes.length + 1) cc)) := (Kp.refl _ _ _).set b1 (.inr ⟨H.le, by simp⟩) _ _
  have b2 := b1.set 5 (.slice ao (σ.nodes.length + 1) cc)
  rw [(pcells_set ..).2.2.2.2.2.1] at b2
  have sub : ∀ T ∈ ([34] : List TypeId), T ∈ paTs := by intro T hT; simp only [List.mem_singleton] at hT; subst hT; simp
  have subB : ∀ T ∈ ([TB] : List TypeId), T ∈ paTs := by intro T hT; simp only [List.mem_singleton] at hT; subst hT; simp
  refine ⟨⟨b2, H.le, (H.rest.kp hk0 (.inl (by decide))).kp k2 (.inl (by decide)), (H.todo.kp hk0 (.inl (by decide))).kp k2 (.inl (by decide)), ?_, (H.above.kp hk0 (.inl (by decide))).kp k2 (.inl (by decide)), fun t ht => ((H.jobs t ht).kp hk0 sub).kp k2 subB⟩, (hk0.mono (.inr ⟨Nat.le_refl _, by simp⟩)).trans (k2.mono (.inr ⟨Nat.le_refl _, by simp⟩))⟩
  rw [show (σ.add k d).nodes = σ.nodes ++ [⟨σ.path, k, d⟩] from rfl, List.length_append, nodeCells_append]
  exact hs.kp k2 (.inl (by decide))
set_option maxHeartbeats 800000 in
set_option maxRecDepth 100000 in
theorem add_any {B b : Nat} {tail : List Value} {ts : List (Job × Value)} {σ : PSt} {w : World} (h : PA B b tail ts σ w) (k : Int) (s : ByteArray) (hl : σ.nodes.length ≤ 1099511627776) :
    Calls Tryd.prog 83 #[.pointer (some ⟨b, 0, none⟩), .int .i64 k, .string s] w fun ed w' => ed = .returned (.tuple #[]) ∧ PA B b tail ts (σ.add k s.data.toList) w' ∧ Kp B [34, TB] w w' := by
  obtain ⟨vr, vt, vl, va, h⟩ := h
  obtain ⟨i0, hi, hz0, hz1, hz2⟩ := info_parts infoNode
  have c5 : w.cell? ⟨b, 5, none⟩ = some vl := (h.blk.cell 5).trans (pcells_get ..).2.2.2.2.2.1
  have c7 : w.cell? ⟨b, 7, none⟩ = some (sv σ.path) := (h.blk.cell 7).trans (pcells_get ..).2.2.2.2.2.2.2
  unfold sv at c7
  have hsl := h.nodes
  have hblt := h.lt
  have hbw := h.le
  have H := Lib.hid h
  clear h
  go_enter Tryd.func83, Tryd.ntmps83
  go_upto_region 0 with (fail)
  go_region_law (refine step_append_own2 rfl _ _ 22 22 rfl 34 i0 _ 3 40 Tryd.underlying22 hi hz0 hz1 hz2 rfl B vl _ _ rfl _ rfl 1 [.string ⟨σ.path.toArray⟩, .int .i64 k, .string s] (by simp; omega) (by first | exact hsl.alloc _ | exact hsl) (by first | exact Src.ofSl Tryd.underlying22 (Sl.of_new w 0 (Nat.zero_le _) 34 3 1 [.string ⟨σ.path.toArray⟩, .int .i64 k, .string s] rfl (by simp [maxLen])) (by intro u hu; simp only [List.mem_cons, List.not_mem_nil, or_false] at hu; rcases hu with rfl | rfl | rfl <;> rfl)) (by unfold maxLen; omega) (by omega) ?_; intro ao cc w1 hs1 hk1 hkk1 hb1; have HK1 := Lib.hid (Kp.of_drew hk1); have HS1 := Lib.hid hs1; have B1 := Lib.hid ((H.out.blk.alloc (.cells #[.string ⟨σ.path.toArray⟩, .int .i64 k, .string s] 34)).kp HK1.out (.inr (by decide))); have c51 : w1.cell? ⟨b, 5, none⟩ = some vl := (B1.out.cell 5).trans (pcells_get ..).2.2.2.2.2.1; have f51 := B1.out.free 5; clear hs1 hk1 hkk1 hb1)
  all_goals (
    have hst := add_step H.out k s.data.toList _ ao cc (σ.nodes.length + 1) rfl (by have h1 := HS1.out; simpa [sv] using h1) HK1.out
    have HST := Lib.hid hst
    clear hst
    go_wp2_with fail
    go_end0
    exact ⟨rfl, ⟨_, _, _, _, HST.out.1⟩, HST.out.2⟩)

/-- a directory laid onto the others -/
theorem push_step {B b : Nat} {tail : List Value} {ts : List (Job × Value)} {σ : PSt} {w w1 : World} {vr vt vl va : Value} (H : PAt B b tail ts σ w vr vt vl va) (C : Array Value) (ao : Option Addr) (cc n : Nat) (hn : n = σ.above.length + 1)
    (hs : Sl w1 B 72 2 (.slice ao n cc) n (opCells σ.above ++ [sv σ.path, sv []])) (hk : Kp B [72] (w.alloc (.cells C 72)) w1) :
    PAt B b tail ts { σ with above := σ.above ++ [(σ.path, [])] } (w1.setCell ⟨b, 6, none⟩ (.slice ao n cc)) vr vt vl (.slice ao n cc) ∧ Kp B [72, TB] w (w1.setCell ⟨b, 6, none⟩ (.slice ao n cc)) := by
  subst hn
  have hk0 : Kp B [72] w w1 := ((Kp.refl _ _ _).alloc _).trans hk
  have b1 := H.blk.kp hk0 (.inr (by decide))
  have k2 : Kp B [TB] w1 (w1.setCell ⟨b, 6, none⟩ (.slice ao (σ.above.length + 1) cc)) := (Kp.refl _ _ _).set b1 (.inr ⟨H.le, by simp⟩) _ _
  have b2 := b1.set 6 (.slice ao (σ.above.length + 1) cc)
  rw [(pcells_set ..).2.2.2.2.2.2.1] at b2
  have sub : ∀ T ∈ ([72] : List TypeId), T ∈ paTs := by intro T hT; simp only [List.mem_singleton] at hT; subst hT; simp
  have subB : ∀ T ∈ ([TB] : List TypeId), T ∈ paTs := by intro T hT; simp only [List.mem_singleton] at hT; subst hT; simp
  refine ⟨⟨b2, H.le, (H.rest.kp hk0 (.inl (by decide))).kp k2 (.inl (by decide)), (H.todo.kp hk0 (.inl (by decide))).kp k2 (.inl (by decide)), (H.nodes.kp hk0 (.inl (by decide))).kp k2 (.inl (by decide)), ?_, fun t ht => ((H.jobs t ht).kp hk0 sub).kp k2 subB⟩, (hk0.mono (.inr ⟨Nat.le_refl _, by simp⟩)).trans (k2.mono (.inr ⟨Nat.le_refl _, by simp⟩))⟩
  show Sl _ B _ 2 _ (σ.above ++ [(σ.path, [])]).length (opCells (σ.above ++ [(σ.path, [])]))
  rw [List.length_append, opCells_append]
  exact hs.kp k2 (.inl (by decide))

set_option maxHeartbeats 800000 in
set_option maxRecDepth 100000 in
theorem open_any {B b : Nat} {tail : List Value} {ts : List (Job × Value)} {σ : PSt} {w : World} (h : PA B b tail ts σ w) (s : ByteArray) (p : Int) (hl : σ.nodes.length ≤ 1099511627776) (ha : σ.above.length ≤ 1099511627776) :
    Calls Tryd.prog 70 #[.pointer (some ⟨b, 0, none⟩), .string s, .int .i64 p] w fun ed w' => ed = .returned (.tuple #[]) ∧ PA B b tail ts (doAct .open' s.data.toList p σ).2 w' ∧ Kp B [TB] w w' := by
  have HP := Lib.hid h
  obtain ⟨vr, vt, vl, va, h⟩ := h
  have c5 : w.cell? ⟨b, 5, none⟩ = some vl := (h.blk.cell 5).trans (pcells_get ..).2.2.2.2.2.1
  have c6 : w.cell? ⟨b, 6, none⟩ = some va := (h.blk.cell 6).trans (pcells_get ..).2.2.2.2.2.2.1
  obtain ⟨a1, cp1, rfl, -, -⟩ := h.nodes.shape
  obtain ⟨a2, cp2, rfl, -, -⟩ := h.above.shape
  clear h
  by_cases h5 : 5 < σ.above.length
  · have hd : decide ((5:Int) < (σ.above.length : Int)) = true := by simp; omega
    have HS : Hid ((doAct .open' s.data.toList p σ).2 = σ.fail 8 p) := by show _ = _; simp only [doAct, if_pos h5]
    clear h5
    go_enter Tryd.func70, Tryd.ntmps70
    go_wp2_with fail
    refine (fail_any HP.out 8 p).mono ?_
    rintro e w' ⟨rfl, h1, h2⟩
    go_wp2_with fail
    go_end0
    rw [HS.out]
    exact ⟨rfl, h1, h2⟩
  · have hd : decide ((5:Int) < (σ.above.length : Int)) = false := by simp; omega
    by_cases h30 : σ.nodes.length = 30
    · have hd2 : ((σ.nodes.length : Int) == 30) = true := by simp; omega
      have HS : Hid ((doAct .open' s.data.toList p σ).2 = σ.fail 9 p) := by show _ = _; simp only [doAct, if_neg h5, if_pos h30]
      clear h5 h30
      go_enter Tryd.func70, Tryd.ntmps70
      go_wp2_with fail
      refine (fail_any HP.out 9 p).mono ?_
      rintro e w' ⟨rfl, h1, h2⟩
      go_wp2_with fail
      go_end0
      rw [HS.out]
      exact ⟨rfl, h1, h2⟩
    · have hd2 : ((σ.nodes.length : Int) == 30) = false := by rw [beq_eq_false_iff_ne]; omega
      have HS : Hid ((doAct .open' s.data.toList p σ).2 = σ) := by show _ = _; simp only [doAct, if_neg h5, if_neg h30]
      clear h5 h30
      go_enter Tryd.func70, Tryd.ntmps70
      go_wp2_with fail
      go_end0
      rw [HS.out]
      exact ⟨rfl, HP.out, Kp.refl _ _ _⟩

set_option maxHeartbeats 800000 in
set_option maxRecDepth 100000 in
theorem leads_any {B b : Nat} {tail : List Value} {ts : List (Job × Value)} {σ : PSt} {w : World} (h : PA B b tail ts σ w) (s : ByteArray) (hs : s.size ≤ maxLen) (p : Int) (hl : σ.nodes.length ≤ 1099511627776) :
    Calls Tryd.prog 82 #[.pointer (some ⟨b, 0, none⟩), .string s, .int .i64 p] w fun ed w' => ed = .returned (.tuple #[]) ∧ PA B b tail ts (doJob .leads s.data.toList p σ).2 w' ∧ Kp B [34, TB] w w' := by
  have HP := Lib.hid h
  clear h
  cases hd : dataB 3 s.data.toList with
  | true =>
    have HS : Hid ((doJob .leads s.data.toList p σ).2 = σ.add 3 s.data.toList) := by show _ = _; simp only [doJob, hd, if_true]
    have HD := Lib.hid hd
    clear hd
    go_enter Tryd.func82, Tryd.ntmps82
    go_wp2_with fail
    refine (data_any 3 s _ hs).mono ?_
    rintro e w1 ⟨rfl, rfl⟩
    rw [HD.out]
    go_wp2_with fail
    refine (add_any HP.out 3 s hl).mono ?_
    rintro e w2 ⟨rfl, h1, h2⟩
    go_wp2_with fail
    go_end0
    rw [HS.out]
    exact ⟨rfl, h1, h2⟩
  | false =>
    have HS : Hid ((doJob .leads s.data.toList p σ).2 = (σ.fail 6 p).add 3 s.data.toList) := by show _ = _; simp only [doJob, hd, Bool.false_eq_true, if_false]
    have HD := Lib.hid hd
    clear hd
    have hl2 : (σ.fail 6 p).nodes.length ≤ 1099511627776 := by unfold PSt.fail; split <;> exact hl
    go_enter Tryd.func82, Tryd.ntmps82
    go_wp2_with fail
    refine (data_any 3 s _ hs).mono ?_
    rintro e w1 ⟨rfl, rfl⟩
    rw [HD.out]
    go_wp2_with fail
    refine (fail_any HP.out 6 p).mono ?_
    rintro e w1 ⟨rfl, h1, h2⟩
    have H1 := Lib.hid h1
    have H2 := Lib.hid h2
    clear h1 h2
    go_wp2_with fail
    refine (add_any H1.out 3 s hl2).mono ?_
    rintro e w2 ⟨rfl, h1, h2⟩
    go_wp2_with fail
    go_end0
    rw [HS.out]
    exact ⟨rfl, h1, (H2.out.mono (.inr ⟨Nat.le_refl _, by simp⟩)).trans h2⟩

/-- slices.Index, slices.Contains of texts -/
def atB (l : List (List UInt8)) (s : List UInt8) : Nat → Int
  | 0 => -1
  | k + 1 => if l[l.length - (k + 1)]? = some s then ((l.length - (k + 1) : Nat) : Int) else atB l s k
theorem atB_mem (l : List (List UInt8)) (s : List UInt8) : ∀ k, k ≤ l.length → (0 ≤ atB l s k ↔ s ∈ l.drop (l.length - k))
  | 0, _ => by simp [atB]
  | k + 1, h => by
    have hl : l.length - (k + 1) < l.length := by omega
    have e : l.drop (l.length - (k + 1)) = l[l.length - (k + 1)] :: l.drop (l.length - k) := by
      rw [List.drop_eq_getElem_cons hl]; congr 2; omega
    unfold atB
    rw [e, List.mem_cons, List.getElem?_eq_getElem hl]
    split
    · rename_i h1
      simp only [Option.some.injEq] at h1
      exact ⟨fun _ => .inl h1.symm, fun _ => by omega⟩
    · rename_i h1
      simp only [Option.some.injEq] at h1
      rw [atB_mem l s k (by omega)]
      exact ⟨fun h => .inr h, fun h => h.resolve_left (fun e => h1 e.symm)⟩
theorem svs_at (l : List (List UInt8)) (k : Nat) (h : k < l.length) : (svs l)[k]? = some (sv l[k]) := by simp [svs, List.getElem?_eq_getElem h]
set_option maxHeartbeats 800000 in
set_option maxRecDepth 100000 in
theorem index_any (l : List (List UInt8)) (v : Value) (s : ByteArray) (w : World) (hv : Sl w 0 9 1 v l.length (svs l)) :
    Calls Tryd.prog 79 #[v, .string s] w fun e w' => e = .returned (.int .i64 (atB l s.data.toList l.length)) ∧ w = w' := by
  obtain ⟨a0, c0, rfl, hc1, hc2⟩ := hv.shape
  unfold maxLen at hc2
  have HV := Lib.hid hv
  clear hv
  go_enter Tryd.func79, Tryd.ntmps79
  go_wp2_with fail
  go_loopg [8] l.length (fun gk iv wr => ∃ k : Nat, gk = l.length - k ∧ k ≤ l.length ∧ iv = .int .i64 k ∧ w = wr ∧ Hid (atB l s.data.toList l.length = atB l s.data.toList (l.length - k)))
  case atStart => exact ⟨0, rfl, Nat.zero_le _, rfl, rfl, rfl⟩
  case round =>
    obtain ⟨k, rfl, hk, rfl, rfl, HA⟩ := hrel
    by_cases hlt : k < l.length
    · obtain ⟨b', o', c', hsh, -, -, -, hltb, hcc, -⟩ := HV.out.pos (by omega)
      cases hsh
      have d0 : w.cell? ⟨b', o' + k, none⟩ = some (sv l[k]) := (hcc k (by omega)).trans (svs_at l k hlt)
      unfold sv at d0
      have hatk : atB l s.data.toList (l.length - k) = if l[k] = s.data.toList then (k : Int) else atB l s.data.toList (l.length - (k + 1)) := by
        rw [show l.length - k = (l.length - (k + 1)) + 1 by omega, atB, show l.length - (l.length - (k + 1) + 1) = k by omega, List.getElem?_eq_getElem hlt]
        simp
      have HATK := Lib.hid hatk
      clear hcc hatk
      generalize l[k] = x at *
      by_cases he : x = s.data.toList
      · have hb : (s.toList == x) = true := by rw [ByteArray.toList_eq, he]; exact beq_self_eq_true _
        have HE := Lib.hid he
        clear he
        go_wp2_with fail
        go_ret
        refine ⟨?_, rfl⟩
        rw [HA.out, HATK.out, if_pos HE.out]; rfl
      · have hb : (s.toList == x) = false := by
          rw [beq_eq_false_iff_ne, ByteArray.toList_eq]; exact fun e => he e.symm
        have HE : Hid (¬ x = s.data.toList) := he
        clear he
        go_wp2_with fail
        go_roundg (l.length - (k + 1))
        case measure => omega
        case rel => exact ⟨k + 1, rfl, by omega, by go_num, rfl, by show _ = _; rw [HA.out, HATK.out, if_neg HE.out]⟩
    · have hk2 : k = l.length := by omega
      subst hk2
      go_wp2_with fail
      go_ret
      refine ⟨?_, rfl⟩
      rw [HA.out, Nat.sub_self]; rfl
set_option maxHeartbeats 800000 in
set_option maxRecDepth 100000 in
theorem contains_any (l : List (List UInt8)) (v : Value) (s : ByteArray) (w : World) (hv : Sl w 0 9 1 v l.length (svs l)) :
    Calls Tryd.prog 69 #[v, .string s] w fun e w' => e = .returned (.bool (decide (s.data.toList ∈ l))) ∧ w = w' := by
  have HV := Lib.hid hv
  clear hv
  have hm := atB_mem l s.data.toList l.length (Nat.le_refl _)
  rw [Nat.sub_self, List.drop_zero] at hm
  have hd : decide (0 ≤ atB l s.data.toList l.length) = decide (s.data.toList ∈ l) := by
    rw [decide_eq_decide]; exact hm
  have HD := Lib.hid hd
  clear hm hd
  go_enter Tryd.func69, Tryd.ntmps69
  go_wp2_with fail
  refine (index_any l v s _ HV.out).mono ?_
  rintro e w1 ⟨rfl, rfl⟩
  go_wp2_with fail
  go_ret
  refine ⟨?_, rfl⟩
  rw [← HD.out]; rfl
end Go.Proofs.YtflkafnhhadphaaDoor
