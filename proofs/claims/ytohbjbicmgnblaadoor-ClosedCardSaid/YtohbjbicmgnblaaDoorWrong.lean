/- tree.Wrong: the first node that is wrong. -/
import Derived.Test.YtohbjbicmgnblaaDoorChecked
import Derived.Test.YtohbjbicmgnblaaDoorCome
namespace Go.Proofs.YtohbjbicmgnblaaDoor
open Go Go.RowKit
set_option linter.unusedVariables false

structure Node where
  path : List UInt8
  kind : Int
  data : List UInt8
def nodeC (n : Node) : List Value := [sv n.path, .int .i64 n.kind, sv n.data]
def nodeCells (l : List Node) : List Value := l.flatMap nodeC
theorem nodeCells_length (l : List Node) : (nodeCells l).length = l.length * 3 := by
  induction l with
  | nil => rfl
  | cons o st ih => simp only [nodeCells, List.flatMap_cons, List.length_append, List.length_cons, nodeC, List.length_nil] at *; omega
theorem nodeCells_append (a b : List Node) : nodeCells (a ++ b) = nodeCells a ++ nodeCells b := by simp [nodeCells]
theorem nodeCells_one (l : List Node) : ∀ u ∈ nodeCells l, u.oneCell' = true := fun u hu => by
  obtain ⟨o, _, h⟩ := List.mem_flatMap.1 hu
  simp [nodeC] at h
  rcases h with rfl | rfl | rfl <;> rfl
theorem nodeCells_at (l : List Node) (k : Nat) (h : k < l.length) : (nodeCells l)[k * 3]? = some (sv l[k].path) ∧ (nodeCells l)[k * 3 + 1]? = some (.int .i64 l[k].kind) ∧ (nodeCells l)[k * 3 + 2]? = some (sv l[k].data) := by
  have e : nodeCells l = nodeCells (l.take k) ++ (nodeC l[k] ++ nodeCells (l.drop (k + 1))) := by
    have e1 : l = l.take k ++ (l[k] :: l.drop (k + 1)) := by rw [← List.drop_eq_getElem_cons h, List.take_append_drop]
    have e2 : nodeCells (l[k] :: l.drop (k + 1)) = nodeC l[k] ++ nodeCells (l.drop (k + 1)) := rfl
    rw [← e2, ← nodeCells_append, ← e1]
  have hl : (nodeCells (l.take k)).length = k * 3 := by rw [nodeCells_length, List.length_take]; omega
  refine ⟨?_, ?_, ?_⟩ <;> rw [e, List.getElem?_append_right (by omega), hl]
  · simp [nodeC]
  · rw [show k * 3 + 1 - k * 3 = 1 by omega]; simp [nodeC]
  · rw [show k * 3 + 2 - k * 3 = 2 by omega]; simp [nodeC]

/-- a node comes: is it right, and which directories are open then -/
def nodeOk (k : Nat) (n : Node) (st : Opens) : Option Opens :=
  if k = 30 ∨ dataB n.kind n.data = false then none
  else if k = 0 then (if n.path = [] ∧ st.length ≤ 5 then some st else none)
  else if (comeB n.path st).1 = true ∧ (comeB n.path st).2.length ≤ 5 then some (comeB n.path st).2 else none
def pushD (n : Node) (st : Opens) : Opens := if n.kind = 4 then st ++ [(n.path, [])] else st
def wrongGo : List Node → Nat → Opens → Int
  | [], _, _ => -1
  | n :: r, k, st => match nodeOk k n st with
    | none => k
    | some st' => wrongGo r (k + 1) (pushD n st')
def wrongL (l : List Node) : Int := if l = [] then 0 else wrongGo l 0 []
theorem popTo_le (dir : List UInt8) (st : Opens) : (popTo dir st).length ≤ st.length := by
  unfold popTo
  rw [List.length_reverse]
  exact Nat.le_trans (List.dropWhile_sublist _).length_le (by simp)
theorem comeB_le (p : List UInt8) (st : Opens) : (comeB p st).2.length ≤ st.length := by
  have h := popTo_le (dirOf p).1 st
  unfold comeB
  simp only
  split
  · exact h
  · rename_i o ho
    split
    · exact h
    · have : 0 < (popTo (dirOf p).1 st).length := by
        cases hq : popTo (dirOf p).1 st with
        | nil => rw [hq] at ho; cases ho
        | cons a b => simp
      simp; omega

theorem infoOpen : (Tryd.prog.info? 72).map (fun i => (i.zero, i.size, i.bytes)) = some (some (.agg #[.string ⟨#[]⟩, .string ⟨#[]⟩]), 2, 32) := by kernel_rfl

/-- every string of a list of nodes is at most so long -/
def NodesFit (l : List Node) : Prop := ∀ n ∈ l, n.path.length ≤ 4611686018427387904 ∧ n.data.length ≤ 4611686018427387904

set_option maxHeartbeats 1600000 in
set_option maxRecDepth 100000 in
theorem wrong_any (v : Value) (l : List Node) (w : World) (hv : Rd w 3 v l.length (nodeCells l)) (hT : Tabs w) (hfit : NodesFit l) :
    Calls Tryd.prog 14 #[v] w fun e w' => e = .returned (.int .i64 (wrongL l)) ∧ Keeps Non w w' := by
  rcases Nat.eq_zero_or_pos l.length with h0 | hpos
  · obtain ⟨a, c, rfl, -, -⟩ := hv.shape
    obtain rfl : l = [] := List.eq_nil_of_length_eq_zero h0
    clear hv
    go_enter Tryd.func14, Tryd.ntmps14
    go_wp2_with fail
    go_ret
    exact ⟨rfl, Keeps.refl _ _⟩
  · obtain ⟨b, off, cap, rfl, -, hnc, hcm, hbl, hc, -⟩ := hv.pos hpos
    have hwl : wrongL l = wrongGo l 0 [] := by unfold wrongL; rw [if_neg (by intro e; rw [e] at hpos; simp at hpos)]
    rw [hwl]
    unfold maxLen at hcm
    have hne : ((l.length : Int) == 0) = false := by rw [beq_eq_false_iff_ne]; omega
    have HC : Hid (∀ j, j < l.length * 3 → w.cell? ⟨b, off + j, none⟩ = (nodeCells l)[j]?) := hc
    have HT := Lib.hid hT
    have HFIT := Lib.hid hfit
    clear hc hv hT hwl hfit
    go_enter Tryd.func14, Tryd.ntmps14
    go_wp2_with fail
    go_loopw [12] (fun i wr => ∃ (k : Nat) (st : Opens), k ≤ l.length ∧ k ≤ 30 ∧ i = .int .i64 k ∧ st.length ≤ k ∧ StackAt wr w.heap.size w.heap.size st ∧ Kp w.heap.size [68, 72] w wr ∧ Hid (wrongGo l 0 [] = wrongGo (l.drop k) k st)) (fun i _ => l.length - (intOf i).toNat)
    case atStart => exact ⟨0, [], by omega, by omega, rfl, by simp, ⟨_, Blk.new w _ _, Nat.le_refl _, Sl.nil _ _ _ _⟩, (Kp.refl _ _ _).alloc _, rfl⟩
    case round =>
      obtain ⟨k, st, hk, hk30, rfl, hst, hsa, hkp, hwg⟩ := hrel
      by_cases hlt : k < l.length
      · have hbelow := hkp.below (Nat.le_refl _)
        have hat := nodeCells_at l k hlt
        have hgo : wrongGo l 0 [] = match nodeOk k l[k] st with
          | none => (k : Int)
          | some st' => wrongGo (l.drop (k + 1)) (k + 1) (pushD l[k] st') := by
          rw [hwg.out, List.drop_eq_getElem_cons hlt]; rfl
        have hf := HFIT.out l[k] (List.getElem_mem hlt)
        generalize hN : l[k] = N at *
        obtain ⟨p, kd, da⟩ := N
        simp only at hat hf
        have c0 : wr.cell? ⟨b, off + k * 3, none⟩ = some (sv p) := (hbelow.cell (p := ⟨b, off + k * 3, none⟩) hbl).trans ((HC.out _ (by omega)).trans hat.1)
        have c1 : wr.cell? ⟨b, off + k * 3 + 1, none⟩ = some (.int .i64 kd) := (hbelow.cell (p := ⟨b, off + k * 3 + 1, none⟩) hbl).trans ((HC.out _ (by omega)).trans hat.2.1)
        have c2 : wr.cell? ⟨b, off + k * 3 + 2, none⟩ = some (sv da) := (hbelow.cell (p := ⟨b, off + k * 3 + 2, none⟩) hbl).trans ((HC.out _ (by omega)).trans hat.2.2)
        have HTr := Lib.hid (HT.out.below hbelow HT.out.top)
        unfold sv at c0 c2
        have hsz : (⟨da.toArray⟩ : ByteArray).size ≤ maxLen := by show da.toArray.size ≤ _; simp; unfold maxLen; omega
        have HSZ := Lib.hid hsz
        have hpz : (⟨p.toArray⟩ : ByteArray).size ≤ maxLen := by show p.toArray.size ≤ _; simp; unfold maxLen; omega
        have HPZ := Lib.hid hpz
        clear hsz hpz
        have HGO := Lib.hid hgo
        have HKP := Lib.hid hkp
        clear hat hgo hwg hkp hbelow hN hf
        go_upto_region 8 with (fail)
        obtain ⟨w1, hw1⟩ : ∃ w1, wr.alloc (.cells #[.string ⟨p.toArray⟩, .int .i64 kd, .string ⟨da.toArray⟩] 45) = w1 := ⟨_, rfl⟩
        have hbox : Blk w1 wr.heap.size #[.string ⟨p.toArray⟩, .int .i64 kd, .string ⟨da.toArray⟩] 45 := by rw [← hw1]; exact Blk.new _ _ _
        have hsa1 : StackAt w1 w.heap.size w.heap.size st := by
          obtain ⟨va, hva, hBa, hsl⟩ := hsa
          rw [← hw1]; exact ⟨va, hva.alloc _, hBa, hsl.alloc _⟩
        have HKP1 : Hid (Kp w.heap.size [68, 72] w w1) := by rw [← hw1]; exact HKP.out.alloc _
        have HT1 : Hid (Tabs w1) := HT.out.below (HKP1.out.below (Nat.le_refl _)) HT.out.top
        rw [hw1]
        clear hw1 hsa HKP c0 c1 c2 HTr
        generalize hbx : wr.heap.size = bx at *
        clear hbx
        go_cut [6, 51] (fun _ c wx => (c = .bool true ∧ Hid (wrongGo l 0 [] = k) ∧ Keeps Non w wx) ∨ (c = .bool false ∧ ∃ st' : Opens, k < 30 ∧ st'.length ≤ k ∧ StackAt wx w.heap.size w.heap.size st' ∧ Kp w.heap.size [68, 72] w wx ∧
          Blk wx bx #[.string ⟨p.toArray⟩, .int .i64 kd, .string ⟨da.toArray⟩] 45 ∧ Hid (wrongGo l 0 [] = wrongGo (l.drop (k + 1)) (k + 1) (pushD ⟨p, kd, da⟩ st'))))
        case first =>
          have n0 : w1.cell? ⟨bx, 0, none⟩ = some (.string ⟨p.toArray⟩) := hbox.cell 0
          have n1 : w1.cell? ⟨bx, 1, none⟩ = some (.int .i64 kd) := hbox.cell 1
          have n2 : w1.cell? ⟨bx, 2, none⟩ = some (.string ⟨da.toArray⟩) := hbox.cell 2
          have HBOX := Lib.hid hbox
          have hk30' : Hid (k ≤ 30) := hk30
          clear hbox
          by_cases h30 : k = 30
          · have hb : ((k : Int) == 30) = true := by rw [beq_iff_eq]; omega
            have HF : Hid (wrongGo l 0 [] = k) := by
              show _ = _
              rw [HGO.out]
              unfold nodeOk
              rw [if_pos (.inl h30)]
            clear h30
            go_wp2_with fail
            go_meet
            exact .inl ⟨rfl, HF.out, HKP1.out.keeps (Nat.le_refl _)⟩
          · have hb : ((k : Int) == 30) = false := by rw [beq_eq_false_iff_ne]; omega
            cases hd : dataB kd da with
            | false =>
              have HF : Hid (wrongGo l 0 [] = k) := by
                show _ = _
                rw [HGO.out]
                unfold nodeOk
                rw [if_pos (.inr hd)]
              have HD := Lib.hid hd
              clear hd h30
              go_wp2_with fail
              refine (data_any kd ⟨da.toArray⟩ _ HSZ.out).mono ?_
              rintro e w2 ⟨rfl, rfl⟩
              rw [show dataB kd (⟨da.toArray⟩ : ByteArray).data.toList = false from HD.out]
              go_wp2_with fail
              go_meet
              exact .inl ⟨rfl, HF.out, HKP1.out.keeps (Nat.le_refl _)⟩
            | true =>
              have HD := Lib.hid hd
              have hdd : ¬ (k = 30 ∨ dataB kd da = false) := by rw [hd]; simp; omega
              have HDD := Lib.hid hdd
              clear hd hdd
              by_cases hk0 : k = 0
              · have hz : ((k : Int) == 0) = true := by rw [beq_iff_eq]; omega
                by_cases hp0 : p = []
                · have hb0 : (!p.isEmpty) = false := by rw [hp0]; rfl
                  have HF : Hid (wrongGo l 0 [] = wrongGo (l.drop (k + 1)) (k + 1) (pushD ⟨p, kd, da⟩ st)) := by
                    show _ = _
                    rw [HGO.out]
                    unfold nodeOk
                    rw [if_neg HDD.out, if_pos hk0, if_pos ⟨hp0, by omega⟩]
                  have hst5 : decide ((5 : Int) < (st.length : Int)) = false := by simp; omega
                  have HSA := Lib.hid hsa1
                  obtain ⟨va, hva, hBa, hsl⟩ := hsa1
                  obtain ⟨aa, ac, rfl, -, -⟩ := hsl.shape
                  have d0 : w1.cell? ⟨w.heap.size, 0, none⟩ = some (.slice aa st.length ac) := hva.cell 0
                  have hk3 : k < 30 := by omega
                  clear hp0 hk0 h30 hva hsl
                  go_wp2_with fail
                  refine (data_any kd ⟨da.toArray⟩ _ HSZ.out).mono ?_
                  rintro e w2 ⟨rfl, rfl⟩
                  rw [show dataB kd (⟨da.toArray⟩ : ByteArray).data.toList = true from HD.out]
                  go_wp2_with fail
                  go_meet
                  exact .inr ⟨rfl, st, hk3, hst, HSA.out, HKP1.out, HBOX.out, HF.out⟩
                · have hb0 : (!p.isEmpty) = true := by rw [List.isEmpty_eq_false_iff.2 hp0]; rfl
                  have HF : Hid (wrongGo l 0 [] = k) := by
                    show _ = _
                    rw [HGO.out]
                    unfold nodeOk
                    rw [if_neg HDD.out, if_pos hk0, if_neg (fun h => hp0 h.1)]
                  clear hp0 hk0 h30
                  go_wp2_with fail
                  refine (data_any kd ⟨da.toArray⟩ _ HSZ.out).mono ?_
                  rintro e w2 ⟨rfl, rfl⟩
                  rw [show dataB kd (⟨da.toArray⟩ : ByteArray).data.toList = true from HD.out]
                  go_wp2_with fail
                  go_meet
                  exact .inl ⟨rfl, HF.out, HKP1.out.keeps (Nat.le_refl _)⟩
              · have hz : ((k : Int) == 0) = false := by rw [beq_eq_false_iff_ne]; omega
                have hc := comeB_le p st
                have HK0 := Lib.hid hk0
                have hk3 : k < 30 := by omega
                clear hk0 h30
                go_wp2_with fail
                refine (data_any kd ⟨da.toArray⟩ _ HSZ.out).mono ?_
                rintro e w2 ⟨rfl, rfl⟩
                rw [show dataB kd (⟨da.toArray⟩ : ByteArray).data.toList = true from HD.out]
                go_wp2_with fail
                refine (come_any w.heap.size w.heap.size st ⟨p.toArray⟩ _ HPZ.out HT1.out HT.out.top hsa1).mono ?_
                rintro e w2 ⟨rfl, hsa2, hkp2⟩
                have hpp : (⟨p.toArray⟩ : ByteArray).data.toList = p := rfl
                rw [hpp] at hsa2 ⊢
                have HKP2 : Hid (Kp w.heap.size [68, 72] w w2) := HKP1.out.trans hkp2
                have HBOX2 : Hid (Blk w2 bx #[.string ⟨p.toArray⟩, .int .i64 kd, .string ⟨da.toArray⟩] 45) := HBOX.out.kp hkp2 (.inr (by decide))
                clear n0 n1 n2 hkp2 hsa1 hpp
                generalize hcb : comeB p st = cb at *
                obtain ⟨cb1, st2⟩ := cb
                simp only at hsa2 hc ⊢
                have HSA := Lib.hid hsa2
                obtain ⟨va, hva, hBa, hsl⟩ := hsa2
                obtain ⟨aa, ac, rfl, -, -⟩ := hsl.shape
                have d0 : w2.cell? ⟨w.heap.size, 0, none⟩ = some (.slice aa st2.length ac) := hva.cell 0
                have HCB := Lib.hid hcb
                clear hcb hva hsl
                cases cb1 with
                | false =>
                  have HF : Hid (wrongGo l 0 [] = k) := by
                    show _ = _
                    rw [HGO.out]
                    unfold nodeOk
                    rw [if_neg HDD.out, if_neg HK0.out]
                    simp only [HCB.out]
                    simp
                  go_wp2_with fail
                  go_meet
                  exact .inl ⟨rfl, HF.out, HKP2.out.keeps (Nat.le_refl _)⟩
                | true =>
                  by_cases h5 : st2.length ≤ 5
                  · have hst5 : decide ((5 : Int) < (st2.length : Int)) = false := by simp; omega
                    have HF : Hid (wrongGo l 0 [] = wrongGo (l.drop (k + 1)) (k + 1) (pushD ⟨p, kd, da⟩ st2)) := by
                      show _ = _
                      rw [HGO.out]
                      unfold nodeOk
                      rw [if_neg HDD.out, if_neg HK0.out]
                      simp only [HCB.out]
                      rw [if_pos ⟨trivial, h5⟩]
                    have hl2 : st2.length ≤ k := by omega
                    clear h5
                    go_wp2_with fail
                    go_meet
                    exact .inr ⟨rfl, st2, hk3, hl2, HSA.out, HKP2.out, HBOX2.out, HF.out⟩
                  · have hst5 : decide ((5 : Int) < (st2.length : Int)) = true := by simp; omega
                    have HF : Hid (wrongGo l 0 [] = k) := by
                      show _ = _
                      rw [HGO.out]
                      unfold nodeOk
                      rw [if_neg HDD.out, if_neg HK0.out]
                      simp only [HCB.out]
                      rw [if_neg (fun h => h5 h.2)]
                    clear h5
                    go_wp2_with fail
                    go_meet
                    exact .inl ⟨rfl, HF.out, HKP2.out.keeps (Nat.le_refl _)⟩
        case rest =>
          rcases hcut with ⟨rfl, hF, hK⟩ | ⟨rfl, st', hk3, hst', hsa', hkp', hbox', hF⟩
          · have HK := Lib.hid hK
            clear hK
            go_wp2_with fail
            go_ret
            exact ⟨int_ret hF.out.symm, HK.out⟩
          · have n0 : wc.cell? ⟨bx, 0, none⟩ = some (.string ⟨p.toArray⟩) := hbox'.cell 0
            have n1 : wc.cell? ⟨bx, 1, none⟩ = some (.int .i64 kd) := hbox'.cell 1
            by_cases h4 : kd = 4
            · have hb4 : (kd == 4) = true := by rw [h4]; rfl
              have hpu : pushD ⟨p, kd, da⟩ st' = st' ++ [(p, [])] := by unfold pushD; exact if_pos h4
              rw [hpu] at hF
              obtain ⟨va, hva, hBa, hsl⟩ := hsa'
              obtain ⟨aa, ac, rfl, -, -⟩ := hsl.shape
              have d0 : wc.cell? ⟨w.heap.size, 0, none⟩ = some (.slice aa st'.length ac) := hva.cell 0
              have HF := Lib.hid hF.out
              have HBOX := Lib.hid hbox'
              clear h4 hF hbox' hpu HKP1 HT1 hbox hsa1
              have HKX := Lib.hid hkp'
              clear hkp'
              obtain ⟨i0, hi, hz0, hz1, hz2⟩ := info_parts infoOpen
              go_wp2_with (at_builtin; go_loud (refine wpList_append_sl rfl _ _ 68 68 rfl 72 i0 (.agg #[.string ⟨#[]⟩, .string ⟨#[]⟩]) 2 32 Tryd.underlying68 hi hz0 hz1 hz2 rfl w.heap.size _ _ _ rfl _ rfl 1 [.string ⟨p.toArray⟩, .string ⟨#[]⟩] ?c1 (hsl.alloc _) ?c2 ?c3 ?c4 ?_))
              case c1 => have := HKX.out.size; simp; omega
              case c2 => exact Src.ofSl Tryd.underlying68 (Sl.of_new wc 0 (Nat.zero_le _) 72 2 1 [.string ⟨p.toArray⟩, .string ⟨#[]⟩] rfl (by simp [maxLen])) (by simp [Value.oneCell'])
              case c3 => unfold maxLen; omega
              case c4 => omega
              intro v' w2 hs2 hk2 hb2
              obtain ⟨ao, cc, rfl, -, -⟩ := hs2.shape
              have hkp2 : Kp w.heap.size [68, 72] w w2 := (HKX.out.alloc _).trans' hk2 (.inr ⟨Nat.le_refl _, by simp⟩)
              have hva2 := (hva.alloc (.cells #[.string ⟨p.toArray⟩, .string ⟨#[]⟩] 72)).kp hk2 (.inr (by decide))
              have f2 := hva2.free 0
              have d2 : w2.cell? ⟨w.heap.size, 0, none⟩ = some (.slice aa st'.length ac) := hva2.cell 0
              have HKP2 := Lib.hid hkp2
              have HVA2 := Lib.hid hva2
              have HSL2 := Lib.hid hs2
              clear hb2 hsl hva d0 hi hz0 hz1 hz2 hkp2 hva2 hs2 hk2 HKX HBOX n0 n1
              go_wp2_with fail
              go_roundw
              case measure => simp only [intOf]; omega
              case rel =>
                refine ⟨k + 1, st' ++ [(p, [])], by omega, by omega, rfl, by simp; omega, ⟨_, HVA2.out.set 0 _, Nat.le_refl _, ?_⟩, HKP2.out.set HVA2.out (.inr ⟨Nat.le_refl _, by simp⟩) _ _, HF.out⟩
                have := HSL2.out.kp ((Kp.refl w.heap.size [68] w2).set HVA2.out (.inr ⟨Nat.le_refl _, by simp⟩) 0 (.slice ao (st'.length + 1) cc)) (.inl (by decide))
                rw [opCells_append]
                simpa [opCells, sv] using this
            · have hb4 : (kd == 4) = false := by rw [beq_eq_false_iff_ne]; exact h4
              have hpu : pushD ⟨p, kd, da⟩ st' = st' := by unfold pushD; exact if_neg h4
              rw [hpu] at hF
              clear h4 hpu
              have HF := Lib.hid hF.out
              clear hF
              go_wp2_with fail
              go_roundw
              case measure => simp only [intOf]; omega
              case rel => exact ⟨k + 1, st', by omega, by omega, rfl, by omega, hsa', hkp', HF.out⟩
      · have hlen : l.drop k = [] := List.drop_eq_nil_of_le (by omega)
        have HF : Hid (wrongGo l 0 [] = -1) := by
          show _ = _
          rw [hwg.out, hlen]; rfl
        have HKP := Lib.hid hkp
        clear hlen hwg hkp
        go_wp2_with fail
        go_ret
        exact ⟨int_ret HF.out.symm, HKP.out.keeps (Nat.le_refl _)⟩
end Go.Proofs.YtohbjbicmgnblaaDoor
