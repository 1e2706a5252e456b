/- narlaw.small: it answers, and turns nothing. -/
import Derived.Test.YtdkogijdfgfpeaaGreatDoorChecked
import Derived.Test.YtdkogijdfgfpeaaGreatDoorOps
import Derived.Test.YtdkogijdfgfpeaaGreatDoorGet
import Derived.Deep.RegionHeld3
namespace Go.Proofs.YtdkogijdfgfpeaaGreatDoor
open Go Go.RowKit
set_option linter.unusedVariables false

theorem wGo_le : ∀ (l : List Node) (z : Int), (∀ x ∈ l, x.path.length ≤ 1048576 ∧ x.data.length ≤ 1048576) → 0 ≤ z → z ≤ 1048576 → 0 ≤ weightGo l z ∧ weightGo l z ≤ 4194304
  | [], z, _, h0, h1 => by rw [weightGo]; omega
  | x :: r, z, h, h0, h1 => by
    have hx := h x (List.mem_cons_self ..)
    rw [weightGo]
    split
    · omega
    · exact wGo_le r _ (fun y hy => h y (List.mem_cons_of_mem _ hy)) (by omega) (by omega)
theorem opC_at (l : List OpV) (k : Nat) (o : OpV) (h : l[k]? = some o) (j : Nat) (hj : j < 8) : (opsC l)[k * 8 + j]? = (opC o)[j]? := flat_at opC 8 (fun a => rfl) l k j o h hj
theorem op_cells {w : World} {b off : Nat} {l : List OpV} {k : Nat} {o : OpV} (hlt : k < l.length) (hc : ∀ j, j < l.length * 8 → w.cell? ⟨b, off + j, none⟩ = (opsC l)[j]?) (h : l[k]? = some o) :
    w.cell? ⟨b, off + k * 8, none⟩ = some (.int .i64 o.kind) ∧ w.cell? ⟨b, off + k * 8 + 1, none⟩ = some (.int .i64 o.a) ∧ w.cell? ⟨b, off + k * 8 + 2, none⟩ = some (.int .i64 o.c) ∧ w.cell? ⟨b, off + k * 8 + 3, none⟩ = some (.string o.s) ∧
    w.cell? ⟨b, off + k * 8 + 4, none⟩ = some (.string o.b) ∧ w.cell? ⟨b, off + k * 8 + 5, none⟩ = some o.vl ∧ w.cell? ⟨b, off + k * 8 + 6, none⟩ = some o.vm ∧ w.cell? ⟨b, off + k * 8 + 7, none⟩ = some o.vd := by
  have hk : k * 8 + 8 ≤ l.length * 8 := by omega
  have e := fun j (hj : j < 8) => (hc (k * 8 + j) (by omega)).trans (opC_at l k o h j hj)
  refine ⟨e 0 (by omega), ?_, ?_, ?_, ?_, ?_, ?_, ?_⟩
  · rw [Nat.add_assoc]; exact e 1 (by omega)
  · rw [Nat.add_assoc]; exact e 2 (by omega)
  · rw [Nat.add_assoc]; exact e 3 (by omega)
  · rw [Nat.add_assoc]; exact e 4 (by omega)
  · rw [Nat.add_assoc]; exact e 5 (by omega)
  · rw [Nat.add_assoc]; exact e 6 (by omega)
  · rw [Nat.add_assoc]; exact e 7 (by omega)
abbrev TOp : TypeId := 67
set_option maxHeartbeats 3200000 in
set_option maxRecDepth 100000 in
theorem small_any (l : List OpV) (v : Value) (w : World) (hv : Rd w 8 v l.length (opsC l)) (ho : ∀ o ∈ l, OpAt w o) (hl : l.length ≤ 200000) :
    Calls Tryz.prog 14 #[v] w fun e w' => (∃ g, e = .returned (.bool g)) ∧ Keeps Non w w' := by
  obtain ⟨va, vc, rfl, hc1, hc2⟩ := hv.shape
  unfold maxLen at hc2
  have HV := Lib.hid hv
  have HO := Lib.hid ho
  clear hv ho
  go_enter Tryz.func14, Tryz.ntmps14
  go_wp2_with fail
  go_loopg [3, 12] l.length (fun gk nv iv wr => ∃ (k : Nat) (z : Int), gk = l.length - k ∧ k ≤ l.length ∧ iv = .int .i64 k ∧ nv = .int .i64 z ∧ 0 ≤ z ∧ z ≤ 262144 ∧ Hid (Keeps Non w wr))
  case atStart => exact ⟨0, l.length, rfl, Nat.zero_le _, rfl, rfl, by omega, by omega, Keeps.refl _ _⟩
  case round =>
    obtain ⟨k, z, rfl, hk, rfl, rfl, hz0, hz1, HK⟩ := hrel
    by_cases hlt : k < l.length
    · obtain ⟨o, ho⟩ : ∃ o, l[k]? = some o := ⟨_, List.getElem?_eq_getElem hlt⟩
      have hO := HO.out o (List.mem_of_getElem? ho)
      obtain ⟨b, off, cp, hsh, -, -, -, hbl, hc, -⟩ := (HV.out.non HK.out).pos (by omega)
      cases hsh
      obtain ⟨c0, c1, c2, c3, c4, c5, c6, c7⟩ := op_cells hlt hc ho
      clear hc ho
      obtain ⟨kind, a, c, s, bb, vl, vm, vd, L, M, D⟩ := o
      obtain ⟨la, lc, hsl, hl1, hl2⟩ := hO.rl.shape
      obtain ⟨ma, mc, hsm, hm1, hm2⟩ := hO.rm.shape
      obtain ⟨da, dc, hsd, hd1, hd2⟩ := hO.rd.shape
      have hLL := hO.ll
      have hML := hO.lm
      have hDL := hO.ld
      have hSL := hO.ls
      have hBL := hO.lb
      simp only at hsl hsm hsd hl1 hm1 hd1 c0 c1 c2 c3 c4 c5 c6 c7 hLL hML hDL hSL hBL
      subst hsl hsm hsd
      unfold maxLen at hl2 hm2 hd2
      have HOP := Lib.hid hO
      clear hO
      go_upto_region 5 with (fail)
      have HKA : Hid (Keeps Non w (wr.alloc (.cells #[.int .i64 kind, .int .i64 a, .int .i64 c, .string s, .string bb, .slice la L.length lc, .slice ma M.length mc, .slice da D.length dc] 67))) := HK.out.alloc _
      have HBN : Hid (Blk (wr.alloc (.cells #[.int .i64 kind, .int .i64 a, .int .i64 c, .string s, .string bb, .slice la L.length lc, .slice ma M.length mc, .slice da D.length dc] 67)) wr.heap.size #[.int .i64 kind, .int .i64 a, .int .i64 c, .string s, .string bb, .slice la L.length lc, .slice ma M.length mc, .slice da D.length dc] 67) := Blk.new wr _ _
      generalize wr.heap.size = nb at *
      generalize wr.alloc (.cells #[.int .i64 kind, .int .i64 a, .int .i64 c, .string s, .string bb, .slice la L.length lc, .slice ma M.length mc, .slice da D.length dc] 67) = W1 at *
      obtain ⟨z2, hz2⟩ : ∃ z2, weightL L = z2 := ⟨_, rfl⟩
      have hzr : 0 ≤ z2 ∧ z2 ≤ 4194304 := by
        rw [← hz2]
        exact wGo_le L L.length HOP.out.nl (by omega) (by omega)
      obtain ⟨hzr0, hzr1⟩ := hzr
      have HW : Hid (∀ wx, Keeps Non w wx → Calls Tryz.prog 30 #[.slice la L.length lc] wx fun e w' => e = .returned (.int .i64 z2) ∧ Keeps Non wx w') := fun wx hk => by
        rw [← hz2]
        exact weight_any _ L wx (HOP.out.rl.non hk) (fun n hn => by have := HOP.out.nl n hn; omega) (by omega)
      clear hz2 HK c0 c1 c2 c3 c4 c5 c6 c7
      have HCC : Hid (∀ wx, Keeps Non W1 wx → wx.cell? ⟨nb, 3, none⟩ = some (.string s) ∧ wx.cell? ⟨nb, 4, none⟩ = some (.string bb) ∧ wx.cell? ⟨nb, 5, none⟩ = some (.slice la L.length lc) ∧ wx.cell? ⟨nb, 7, none⟩ = some (.slice da D.length dc)) := fun wx hk => by
        have hb := HBN.out.keeps hk fun h => h
        exact ⟨hb.cell 3, hb.cell 4, hb.cell 5, hb.cell 7⟩
      obtain ⟨d3, d4, d5, d7⟩ := HCC.out W1 (Keeps.refl _ _)
      go_cut [3] (fun nv wx => ∃ z' : Int, nv = .int .i64 z' ∧ 0 ≤ z' ∧ z' ≤ 16777216 ∧ Hid (Keeps Non W1 wx))
      case first =>
        have hc : Keeps Non W1 W1 := Keeps.refl _ _
        go_region_held3 (fun w' => w'.cell? ⟨nb, 3, none⟩ = some (.string s) ∧ w'.cell? ⟨nb, 4, none⟩ = some (.string bb) ∧ w'.cell? ⟨nb, 5, none⟩ = some (.slice la L.length lc) ∧ w'.cell? ⟨nb, 7, none⟩ = some (.slice da D.length dc)) (first | exact ⟨d3, d4, d5, d7⟩ | exact HCC.out _ hc | exact HCC.out _ hc.drew) (first
          | (go_at_call 30
             refine (HW.out _ (by first | exact HKA.out.tn hc | exact HKA.out.tn hc.drew)).mono ?_
             rintro e w2 ⟨rfl, hk⟩
             replace hc := Keeps.tn hc (by first | exact hk | exact hk.un)
             clear hk
             obtain ⟨d3, d4, d5, d7⟩ := HCC.out _ hc))
        all_goals (
          go_wp2_with fail
          go_meet
          have e1 : IntKind.i64.wrap ((s.size : Int) + (bb.size : Int)) = (s.size : Int) + bb.size := IntWalk.i64_in _ (by omega)
          have e2 : IntKind.i64.wrap ((s.size : Int) + (bb.size : Int) + z2) = (s.size : Int) + bb.size + z2 := IntWalk.i64_in _ (by omega)
          have e3 : IntKind.i64.wrap ((s.size : Int) + (bb.size : Int) + z2 + (D.length : Int)) = (s.size : Int) + bb.size + z2 + D.length := IntWalk.i64_in _ (by omega)
          have e4 : IntKind.i64.wrap (z + ((s.size : Int) + (bb.size : Int) + z2 + (D.length : Int))) = z + ((s.size : Int) + bb.size + z2 + D.length) := IntWalk.i64_in _ (by omega)
          exact ⟨z + ((s.size : Int) + bb.size + z2 + D.length), by rw [e1, e2, e3, e4], by omega, by omega, hc⟩)
      case rest =>
        obtain ⟨z', rfl, hz0', hz1', HKW⟩ := hcut
        have HB' := Lib.hid (HBN.out.keeps HKW.out fun h => h)
        have HK' := Lib.hid (HKA.out.tn HKW.out)
        have d6 := HB'.out.cell 6
        simp only [List.getElem?_toArray, List.getElem?_cons_zero, List.getElem?_cons_succ] at d6
        clear d3 d4 d5 d7 HW HBN HKA HCC HKW HB'
        go_wp2_with fail
        go_loopg [3, 36] M.length (fun gk nv iv wq => ∃ (j : Nat) (y : Int), gk = M.length - j ∧ j ≤ M.length ∧ iv = .int .i64 j ∧ nv = .int .i64 y ∧ 0 ≤ y ∧ y ≤ 16777216 + (j : Int) * 1048577 ∧ Hid (Keeps Non w wq))
        case atStart => exact ⟨0, z', rfl, Nat.zero_le _, rfl, rfl, by omega, by omega, HK'⟩
        case round =>
          clear HK'
          obtain ⟨j, y, rfl, hj, rfl, rfl, hy0, hy1, HKQ⟩ := hrel
          by_cases hlj : j < M.length
          · obtain ⟨b2, o2, cp2, hsh, -, -, -, hbl2, hc2, -⟩ := (HOP.out.rm.non HKQ.out).pos (by simp only; omega)
            cases hsh
            simp only at hc2
            have m0 : wr.cell? ⟨b2, o2 + j, none⟩ = some (sv M[j]) := (hc2 j (by omega)).trans (svs_get M j hlj)
            have hmj := HOP.out.nm M[j] (List.getElem_mem hlj)
            unfold sv at m0
            clear hc2
            generalize M[j] = x at *
            go_wp2_with fail
            go_roundg (M.length - (j + 1))
            case measure => omega
            case rel => exact ⟨j + 1, y + (1 + (x.length : Int)), rfl, by omega, by go_num, by go_num, by omega, by push_cast; omega, HKQ⟩
          · by_cases hy : 262144 < y
            · have g1 : decide ((262144 : Int) < y) = true := decide_eq_true hy
              go_wp2_with fail
              go_ret
              exact ⟨⟨_, rfl⟩, HKQ.out⟩
            · have g1 : decide ((262144 : Int) < y) = false := decide_eq_false hy
              go_wp2_with fail
              go_roundg (l.length - (k + 1))
              case measure => omega
              case rel => exact ⟨k + 1, y, rfl, by omega, by go_num, rfl, hy0, by omega, HKQ⟩
    · go_wp2_with fail
      go_ret
      exact ⟨⟨_, rfl⟩, HK.out⟩
end Go.Proofs.YtdkogijdfgfpeaaGreatDoor
