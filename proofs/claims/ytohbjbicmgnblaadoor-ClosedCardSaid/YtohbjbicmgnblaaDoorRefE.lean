/- narref: is a node right; the first that is wrong. -/
import Derived.Test.YtohbjbicmgnblaaDoorChecked
import Derived.Test.YtohbjbicmgnblaaDoorRefD
namespace Go.Proofs.YtohbjbicmgnblaaDoor
open Go Go.RowKit
set_option linter.unusedVariables false

/-- the nodes ahead: do they leave room for this one -/
def aheadB (dir name : List UInt8) : List Node → Bool → Bool
  | [], inn => inn
  | y :: r, inn => if y.path = dir ∧ y.kind = 4 then aheadB dir name r true
    else if inn = false then aheadB dir name r false
    else if belowB y.path dir = false then false
    else if (dirOf y.path).1 = dir ∧ leS name (dirOf y.path).2 = true then false
    else aheadB dir name r inn
def rightB (l : List Node) (k : Nat) (x : Node) : Bool :=
  if 30 ≤ k ∨ dataB x.kind x.data = false then false
  else if k = 0 then decide (x.path = [])
  else if x.path = [] ∨ x.path.head? = some 47 ∨ refName (dirOf x.path).2 = false ∨ 5 < depthL x.path then false
  else aheadB (dirOf x.path).1 (dirOf x.path).2 (l.take k) false

theorem leS_not (a b : List UInt8) : leS a b = !Op.bytesLess b a := by
  unfold leS
  induction a generalizing b with
  | nil => cases b <;> rfl
  | cons x s ih =>
    cases b with
    | nil => rfl
    | cons y t =>
      simp only [Op.bytesLess]
      have := ih t
      rcases Nat.lt_trichotomy x.toNat y.toNat with h | h | h
      · have h1 : x < y := UInt8.lt_iff_toNat_lt.2 h
        have h2 : ¬ y < x := fun h' => by have := UInt8.lt_iff_toNat_lt.1 h'; omega
        have h3 : ¬ y = x := fun e => by rw [e] at h; omega
        simp [h1, h2, h3]
      · have h1 : x = y := UInt8.toNat_inj.1 h
        subst h1
        simpa using this
      · have h1 : y < x := UInt8.lt_iff_toNat_lt.2 h
        have h2 : ¬ x < y := fun h' => by have := UInt8.lt_iff_toNat_lt.1 h'; omega
        have h3 : ¬ x = y := fun e => by rw [e] at h; omega
        simp [h1, h2, h3]
theorem dirOf_le (P : ByteArray) : (dirOf P.data.toList).1.length ≤ P.size ∧ (dirOf P.data.toList).2.length ≤ P.size := by
  unfold dirOf
  split
  · simp only [List.length_take, List.length_drop, dlen]; omega
  · simp
set_option maxHeartbeats 4000000 in
set_option maxRecDepth 100000 in
theorem rright_any (v : Value) (l : List Node) (k : Nat) (x : Node) (w : World) (hv : Rd w 3 v l.length (nodeCells l)) (hk : k < l.length) (hx : l[k] = x) (hfit : NodesFit l) :
    Calls Tryd.prog 16 #[v, .int .i64 k] w fun e w' => e = .returned (.bool (rightB l k x)) ∧ Keeps Non w w' := by
  have hf := hfit l[k] (List.getElem_mem hk)
  have hat := nodeCells_at l k hk
  rw [hx] at hf hat
  obtain ⟨p, kd, da⟩ := x
  obtain ⟨P, rfl⟩ : ∃ P : ByteArray, p = P.data.toList := ⟨⟨p.toArray⟩, rfl⟩
  have eP : (⟨P.data.toList.toArray⟩ : ByteArray) = P := (arr_ext rfl).symm
  simp only at hat hf
  obtain ⟨b, off, cap, rfl, -, hnc, hcm, hbl, hc, -⟩ := hv.pos (by omega)
  unfold maxLen at hcm
  have c0 : w.cell? ⟨b, off + k * 3, none⟩ = some (sv P.data.toList) := (hc _ (by omega)).trans hat.1
  have c1 : w.cell? ⟨b, off + k * 3 + 1, none⟩ = some (.int .i64 kd) := (hc _ (by omega)).trans hat.2.1
  have c2 : w.cell? ⟨b, off + k * 3 + 2, none⟩ = some (sv da) := (hc _ (by omega)).trans hat.2.2
  have HC : Hid (∀ j, j < l.length * 3 → w.cell? ⟨b, off + j, none⟩ = (nodeCells l)[j]?) := hc
  have HFIT := Lib.hid hfit
  unfold sv at c0 c2
  rw [eP] at c0
  have hsz : (⟨da.toArray⟩ : ByteArray).size ≤ maxLen := by show da.toArray.size ≤ _; simp; unfold maxLen; omega
  have HSZ := Lib.hid hsz
  have hpz : P.size ≤ 4611686018427387904 := by rw [← dlen]; omega
  have HPZ := Lib.hid hpz
  clear hc hv hat hfit hf hx hsz hpz eP
  go_enter Tryd.func16, Tryd.ntmps16
  go_upto_region 2 with (fail)
  obtain ⟨w1, hw1⟩ : ∃ w1, w.alloc (.cells #[.string P, .int .i64 kd, .string ⟨da.toArray⟩] 45) = w1 := ⟨_, rfl⟩
  have hbox : Blk w1 w.heap.size #[.string P, .int .i64 kd, .string ⟨da.toArray⟩] 45 := by rw [← hw1]; exact Blk.new _ _ _
  have HB1 : Hid (w.heap.size < w1.heap.size) := hbox.lt
  have HK1 : Hid (Keeps Non w w1) := by rw [← hw1]; exact (Keeps.refl _ _).alloc _
  rw [hw1]
  clear hw1 c0 c1 c2
  have n0 : w1.cell? ⟨w.heap.size, 0, none⟩ = some (.string P) := hbox.cell 0
  have n1 : w1.cell? ⟨w.heap.size, 1, none⟩ = some (.int .i64 kd) := hbox.cell 1
  have n2 : w1.cell? ⟨w.heap.size, 2, none⟩ = some (.string ⟨da.toArray⟩) := hbox.cell 2
  clear hbox
  by_cases h30 : 30 ≤ k
  · have hd1 : decide ((30 : Int) ≤ (k : Int)) = true := by simp; omega
    have HF : Hid (rightB l k ⟨P.data.toList, kd, da⟩ = false) := by show _ = _; unfold rightB; rw [if_pos (.inl h30)]
    go_wp2_with fail
    go_ret
    exact ⟨bool_ret HF.out.symm, HK1.out⟩
  · have hd1 : decide ((30 : Int) ≤ (k : Int)) = false := by simp; omega
    cases hd : dataB kd da with
    | false =>
      have HF : Hid (rightB l k ⟨P.data.toList, kd, da⟩ = false) := by show _ = _; unfold rightB; rw [if_pos (.inr hd)]
      have HD := Lib.hid hd
      clear hd
      go_wp2_with fail
      refine (rfilled_any kd ⟨da.toArray⟩ _ HSZ.out).mono ?_
      rintro e w2 ⟨rfl, rfl⟩
      rw [show dataB kd (⟨da.toArray⟩ : ByteArray).data.toList = false from HD.out]
      go_wp2_with fail
      go_ret
      exact ⟨bool_ret HF.out.symm, HK1.out⟩
    | true =>
      have HD := Lib.hid hd
      have HDD : Hid (¬ (30 ≤ k ∨ dataB kd da = false)) := by show ¬ _; rw [hd]; simp; omega
      clear hd
      by_cases hk0 : k = 0
      · have hb0 : ((k : Int) == 0) = true := by rw [beq_iff_eq]; omega
        have HF : Hid (rightB l k ⟨P.data.toList, kd, da⟩ = P.toList.isEmpty) := by
          show _ = _; unfold rightB; rw [if_neg HDD.out, if_pos hk0]
          rw [ByteArray.toList_eq]
          cases P.data.toList <;> simp
        clear hk0 h30
        go_wp2_with fail
        refine (rfilled_any kd ⟨da.toArray⟩ _ HSZ.out).mono ?_
        rintro e w2 ⟨rfl, rfl⟩
        rw [show dataB kd (⟨da.toArray⟩ : ByteArray).data.toList = true from HD.out]
        go_wp2_with fail
        go_ret
        exact ⟨bool_ret HF.out.symm, HK1.out⟩
      · have hb0 : ((k : Int) == 0) = false := by rw [beq_eq_false_iff_ne]; omega
        have HRB : Hid (rightB l k ⟨P.data.toList, kd, da⟩ = if P.data.toList = [] ∨ P.data.toList.head? = some 47 ∨ refName (dirOf P.data.toList).2 = false ∨ 5 < depthL P.data.toList then false else aheadB (dirOf P.data.toList).1 (dirOf P.data.toList).2 (l.take k) false) := by
          show _ = _; unfold rightB; rw [if_neg HDD.out, if_neg hk0]
        clear hk0 h30
        go_wp2_with fail
        refine (rfilled_any kd ⟨da.toArray⟩ _ HSZ.out).mono ?_
        rintro e w2 ⟨rfl, rfl⟩
        rw [show dataB kd (⟨da.toArray⟩ : ByteArray).data.toList = true from HD.out]
        go_wp2_with fail
        refine (rsplit_any P _ (by have := HPZ.out; unfold maxLen; omega)).mono ?_
        rintro e w2 ⟨rfl, hk2⟩
        have n0 : w2.cell? ⟨w.heap.size, 0, none⟩ = some (.string P) := ((hk2.below (Nat.le_refl _) (fun _ _ h => h)).cell (p := ⟨w.heap.size, 0, none⟩) HB1.out).trans n0
        have HK2 := Lib.hid (HK1.out.trans hk2 (fun k hk => .inl hk))
        have hdl : (dirOf P.data.toList).1.length ≤ P.size ∧ (dirOf P.data.toList).2.length ≤ P.size := dirOf_le P
        clear hk2 n1 n2
        generalize hDN : dirOf P.data.toList = DN at *
        obtain ⟨dir, nm⟩ := DN
        simp only at hdl HRB ⊢
        have hd62 : dir.length ≤ 4611686018427387904 := by have := HPZ.out; omega
        have hn62 : nm.length ≤ 4611686018427387904 := by have := HPZ.out; omega
        have HDN := Lib.hid hDN
        clear hDN hdl
        by_cases hp0 : P.data.toList = []
        · have hb1 : P.toList.isEmpty = true := by rw [ByteArray.toList_eq, hp0]; rfl
          have HF : Hid (rightB l k ⟨P.data.toList, kd, da⟩ = false) := by show _ = _; rw [HRB.out, if_pos (.inl hp0)]
          clear hp0
          unfold sv
          go_wp2_with fail
          go_ret
          exact ⟨bool_ret HF.out.symm, HK2.out⟩
        · have hb1 : P.toList.isEmpty = false := by rw [ByteArray.toList_eq]; simpa using hp0
          have hpos : 0 < P.size := by
            rw [← dlen]; exact List.length_pos_iff.2 hp0
          by_cases h47 : P[0] = 47
          · have hb2 : ((P[0].toNat : Int) == 47) = true := by rw [h47]; rfl
            have HF : Hid (rightB l k ⟨P.data.toList, kd, da⟩ = false) := by show _ = _; rw [HRB.out, if_pos (.inr (.inl (by simpa using head_47 hpos h47)))]
            clear hp0 h47
            unfold sv
            go_wp2_with fail
            go_ret
            exact ⟨bool_ret HF.out.symm, HK2.out⟩
          · have hb2 : ((P[0].toNat : Int) == 47) = false := by
              rw [beq_eq_false_iff_ne]; intro e; exact h47 (UInt8.toNat_inj.1 (show P[0].toNat = 47 by omega))
            have HH : Hid (¬ P.data.toList.head? = some 47) := by show ¬ _; have := head_not47 hpos h47; simpa using this
            have HP0 := Lib.hid hp0
            clear hp0 h47
            unfold sv
            go_wp2_with fail
            refine (rname_any ⟨nm.toArray⟩ _ (by show nm.toArray.size ≤ _; simp; omega)).mono ?_
            rintro e w3 ⟨rfl, hk3⟩
            rw [show (⟨nm.toArray⟩ : ByteArray).data.toList = nm from rfl]
            have hbs : w.heap.size < w2.heap.size := by
              rcases Nat.lt_or_ge w.heap.size w2.heap.size with h | h
              · exact h
              · rw [World.cell?, Array.getElem?_eq_none h] at n0; cases n0
            have n0 : w3.cell? ⟨w.heap.size, 0, none⟩ = some (.string P) := ((hk3.below (Nat.le_refl _) (fun _ _ h => h)).cell (p := ⟨w.heap.size, 0, none⟩) hbs).trans n0
            have HK3 := Lib.hid (HK2.out.trans hk3 (fun k hk => .inl hk))
            clear hk3 hbs
            cases hnm : refName nm with
            | false =>
              have HF : Hid (rightB l k ⟨P.data.toList, kd, da⟩ = false) := by show _ = _; rw [HRB.out, if_pos (.inr (.inr (.inl hnm)))]
              clear hnm
              go_wp2_with fail
              go_ret
              exact ⟨bool_ret HF.out.symm, HK3.out⟩
            | true =>
              have HNM := Lib.hid hnm
              clear hnm
              go_wp2_with fail
              refine (rdepth_any P _ HPZ.out).mono ?_
              rintro e w4 ⟨rfl, rfl⟩
              by_cases h5 : 5 < depthL P.data.toList
              · have hb3 : decide ((5 : Int) < ((depthL P.data.toList : Nat) : Int)) = true := by simp; omega
                have HF : Hid (rightB l k ⟨P.data.toList, kd, da⟩ = false) := by show _ = _; rw [HRB.out, if_pos (.inr (.inr (.inr h5)))]
                go_wp2_with fail
                go_ret
                exact ⟨bool_ret HF.out.symm, HK3.out⟩
              · have hb3 : decide ((5 : Int) < ((depthL P.data.toList : Nat) : Int)) = false := by simp; omega
                have HA : Hid (rightB l k ⟨P.data.toList, kd, da⟩ = aheadB dir nm (l.take k) false) := by
                  show _ = _
                  rw [HRB.out, if_neg]
                  rintro (h | h | h | h)
                  · exact HP0.out h
                  · exact HH.out h
                  · rw [HNM.out] at h; cases h
                  · exact h5 h
                generalize depthL P.data.toList = dp at *
                go_wp2_with fail
                clear HRB hb3 h5 HD HDD hd1 hb0 hb1 hb2 HH HP0 HNM n0 HDN
                go_loopg [8, 62] k (fun gk inn jj wr => ∃ (j : Nat) (i : Bool), gk = k - j ∧ j ≤ k ∧ inn = .bool i ∧ jj = .int .i64 j ∧ Hid (Keeps Non w wr) ∧ Hid (rightB l k ⟨P.data.toList, kd, da⟩ = aheadB dir nm ((l.take k).drop j) i))
                case atStart => exact ⟨0, false, rfl, by omega, rfl, rfl, HK3, HA⟩
                case round =>
                  clear HA HK3 HK2 HK1
                  obtain ⟨j, i, rfl, hj, rfl, rfl, HKr, HA⟩ := hrel
                  by_cases hlt : j < k
                  · have hjl : j < l.length := by omega
                    have hat := nodeCells_at l j hjl
                    have hf := HFIT.out l[j] (List.getElem_mem hjl)
                    have hst : (l.take k).drop j = l[j] :: (l.take k).drop (j + 1) := by
                      rw [List.drop_eq_getElem_cons (by simp; omega)]
                      simp
                    have hbelow := HKr.out.below (Nat.le_refl _) (fun _ _ h => h)
                    generalize l[j] = N at *
                    obtain ⟨y, ky, dy⟩ := N
                    simp only at hat hf
                    have c0 : wr.cell? ⟨b, off + j * 3, none⟩ = some (sv y) := (hbelow.cell (p := ⟨b, off + j * 3, none⟩) hbl).trans ((HC.out _ (by omega)).trans hat.1)
                    have c1 : wr.cell? ⟨b, off + j * 3 + 1, none⟩ = some (.int .i64 ky) := (hbelow.cell (p := ⟨b, off + j * 3 + 1, none⟩) hbl).trans ((HC.out _ (by omega)).trans hat.2.1)
                    have c2 : wr.cell? ⟨b, off + j * 3 + 2, none⟩ = some (sv dy) := (hbelow.cell (p := ⟨b, off + j * 3 + 2, none⟩) hbl).trans ((HC.out _ (by omega)).trans hat.2.2)
                    unfold sv at c0 c2
                    have HST : Hid (rightB l k ⟨P.data.toList, kd, da⟩ = if y = dir ∧ ky = 4 then aheadB dir nm ((l.take k).drop (j + 1)) true
                        else if i = false then aheadB dir nm ((l.take k).drop (j + 1)) false
                        else if belowB y dir = false then false
                        else if (dirOf y).1 = dir ∧ leS nm (dirOf y).2 = true then false
                        else aheadB dir nm ((l.take k).drop (j + 1)) i) := by show _ = _; rw [HA.out, hst]; rfl
                    have hy62 : y.length ≤ 4611686018427387904 := hf.1
                    clear hat hst hbelow hf HA
                    go_upto_region 13 with (fail)
                    obtain ⟨w5, hw5⟩ : ∃ w5, wr.alloc (.cells #[.string ⟨y.toArray⟩, .int .i64 ky, .string ⟨dy.toArray⟩] 45) = w5 := ⟨_, rfl⟩
                    have hbox : Blk w5 wr.heap.size #[.string ⟨y.toArray⟩, .int .i64 ky, .string ⟨dy.toArray⟩] 45 := by rw [← hw5]; exact Blk.new _ _ _
                    have HK5 : Hid (Keeps Non w w5) := by rw [← hw5]; exact HKr.out.alloc _
                    rw [hw5]
                    clear hw5 c0 c1 c2 HKr
                    generalize wr.heap.size = bx at *
                    have n0 : w5.cell? ⟨bx, 0, none⟩ = some (.string ⟨y.toArray⟩) := hbox.cell 0
                    have n1 : w5.cell? ⟨bx, 1, none⟩ = some (.int .i64 ky) := hbox.cell 1
                    clear hbox
                    go_cut [74] (fun c wx => w5 = wx ∧ c = .bool (decide (y = dir ∧ ky = 4)))
                    case first =>
                      by_cases hy : y = dir
                      · have hby : (y == dir) = true := by rw [beq_iff_eq]; exact hy
                        by_cases h4 : ky = 4
                        · have hb4 : (ky == 4) = true := by rw [h4]; rfl
                          have HV : Hid (decide (y = dir ∧ ky = 4) = true) := decide_eq_true ⟨hy, h4⟩
                          clear hy h4
                          go_wp2_with fail
                          go_meet
                          rw [HV.out]
                          exact ⟨rfl, rfl⟩
                        · have hb4 : (ky == 4) = false := by rw [beq_eq_false_iff_ne]; exact h4
                          have HV : Hid (decide (y = dir ∧ ky = 4) = false) := decide_eq_false (fun h => h4 h.2)
                          clear hy h4
                          go_wp2_with fail
                          go_meet
                          rw [HV.out]
                          exact ⟨rfl, rfl⟩
                      · have hby : (y == dir) = false := by rw [beq_eq_false_iff_ne]; exact hy
                        have HV : Hid (decide (y = dir ∧ ky = 4) = false) := decide_eq_false (fun h => hy h.1)
                        clear hy
                        go_wp2_with fail
                        go_meet
                        rw [HV.out]
                        exact ⟨rfl, rfl⟩
                    case rest =>
                      obtain ⟨rfl, rfl⟩ := hcut
                      by_cases hyd : y = dir ∧ ky = 4
                      · have hd1 : decide (y = dir ∧ ky = 4) = true := decide_eq_true hyd
                        have HA2 : Hid (rightB l k ⟨P.data.toList, kd, da⟩ = aheadB dir nm ((l.take k).drop (j + 1)) true) := by show _ = _; rw [HST.out, if_pos hyd]
                        clear hyd
                        rw [hd1]
                        clear hd1
                        go_wp2_with fail
                        go_roundg (k - (j + 1))
                        case measure => omega
                        case rel => exact ⟨j + 1, true, rfl, by omega, rfl, by go_num, HK5, HA2⟩
                      · have hd1 : decide (y = dir ∧ ky = 4) = false := decide_eq_false hyd
                        have HST2 : Hid (rightB l k ⟨P.data.toList, kd, da⟩ = if i = false then aheadB dir nm ((l.take k).drop (j + 1)) false
                            else if belowB y dir = false then false
                            else if (dirOf y).1 = dir ∧ leS nm (dirOf y).2 = true then false
                            else aheadB dir nm ((l.take k).drop (j + 1)) i) := by show _ = _; rw [HST.out, if_neg hyd]
                        clear hyd
                        rw [hd1]
                        clear hd1 HST
                        cases i with
                        | false =>
                          have HA2 : Hid (rightB l k ⟨P.data.toList, kd, da⟩ = aheadB dir nm ((l.take k).drop (j + 1)) false) := by show _ = _; rw [HST2.out, if_pos rfl]
                          go_wp2_with fail
                          go_roundg (k - (j + 1))
                          case measure => omega
                          case rel => exact ⟨j + 1, false, rfl, by omega, rfl, by go_num, HK5, HA2⟩
                        | true =>
                          have HST3 : Hid (rightB l k ⟨P.data.toList, kd, da⟩ = if belowB y dir = false then false
                            else if (dirOf y).1 = dir ∧ leS nm (dirOf y).2 = true then false
                            else aheadB dir nm ((l.take k).drop (j + 1)) true) := by show _ = _; rw [HST2.out]; rfl
                          clear HST2
                          go_wp2_with fail
                          refine (rbelow_any ⟨y.toArray⟩ ⟨dir.toArray⟩ _ (by show dir.toArray.size < _; simp; omega) (by show y.toArray.size ≤ _; simp; omega)).mono ?_
                          rintro e w6 ⟨rfl, rfl⟩
                          rw [show (⟨y.toArray⟩ : ByteArray).data.toList = y from rfl, show (⟨dir.toArray⟩ : ByteArray).data.toList = dir from rfl]
                          cases hbl : belowB y dir with
                          | false =>
                            have HF : Hid (rightB l k ⟨P.data.toList, kd, da⟩ = false) := by show _ = _; rw [HST3.out, if_pos hbl]
                            clear hbl
                            go_wp2_with fail
                            go_ret
                            exact ⟨bool_ret HF.out.symm, HK5.out⟩
                          | true =>
                            have HST4 : Hid (rightB l k ⟨P.data.toList, kd, da⟩ = if (dirOf y).1 = dir ∧ leS nm (dirOf y).2 = true then false
                              else aheadB dir nm ((l.take k).drop (j + 1)) true) := by show _ = _; rw [HST3.out, if_neg (by rw [hbl]; decide)]
                            clear hbl HST3
                            go_wp2_with fail
                            refine (rsplit_any ⟨y.toArray⟩ _ (by show y.toArray.size ≤ _; simp; unfold maxLen; omega)).mono ?_
                            rintro e w6 ⟨rfl, hk6⟩
                            have HK6 := Lib.hid (HK5.out.trans hk6 (fun k hk => .inl hk))
                            clear hk6 HK5
                            rw [show (⟨y.toArray⟩ : ByteArray).data.toList = y from rfl]
                            generalize dirOf y = DY at *
                            obtain ⟨u, lst⟩ := DY
                            simp only at HST4 ⊢
                            unfold sv
                            by_cases hu : u = dir
                            · have hbu : (u == dir) = true := by rw [beq_iff_eq]; exact hu
                              cases hle : leS nm lst with
                              | true =>
                                have hg0 := leS_not nm lst
                                have hg2 : (!Op.bytesLess lst nm) = true := by rw [← hg0]; exact hle
                                have HF : Hid (rightB l k ⟨P.data.toList, kd, da⟩ = false) := by show _ = _; rw [HST4.out, if_pos ⟨hu, hle⟩]
                                clear hu hle
                                go_wp2_with fail
                                go_ret
                                exact ⟨bool_ret HF.out.symm, HK6.out⟩
                              | false =>
                                have hg2 : (!Op.bytesLess lst nm) = false := by rw [← leS_not]; exact hle
                                have HA2 : Hid (rightB l k ⟨P.data.toList, kd, da⟩ = aheadB dir nm ((l.take k).drop (j + 1)) true) := by show _ = _; rw [HST4.out, if_neg (fun h => by rw [hle] at h; exact absurd h.2 (by decide))]
                                clear hu hle
                                go_wp2_with fail
                                go_roundg (k - (j + 1))
                                case measure => omega
                                case rel => exact ⟨j + 1, true, rfl, by omega, rfl, by go_num, HK6, HA2⟩
                            · have hbu : (u == dir) = false := by rw [beq_eq_false_iff_ne]; exact hu
                              have HA2 : Hid (rightB l k ⟨P.data.toList, kd, da⟩ = aheadB dir nm ((l.take k).drop (j + 1)) true) := by show _ = _; rw [HST4.out, if_neg (fun h => hu h.1)]
                              clear hu
                              go_wp2_with fail
                              go_roundg (k - (j + 1))
                              case measure => omega
                              case rel => exact ⟨j + 1, true, rfl, by omega, rfl, by go_num, HK6, HA2⟩
                  · have HF : Hid (rightB l k ⟨P.data.toList, kd, da⟩ = i) := by
                      show _ = _
                      rw [HA.out, List.drop_eq_nil_of_le (by simp; omega)]
                      rfl
                    clear HA
                    go_wp2_with fail
                    go_ret
                    exact ⟨bool_ret HF.out.symm, HKr.out⟩

def rwGo (l : List Node) : List Node → Nat → Int
  | [], _ => if l = [] then 0 else -1
  | x :: r, k => if rightB l k x = true then rwGo l r (k + 1) else k
/-- the first node that is wrong -/
def refWrongL (l : List Node) : Int := rwGo l l 0

set_option maxHeartbeats 800000 in
set_option maxRecDepth 100000 in
theorem rwrong_any (v : Value) (l : List Node) (w : World) (hv : Rd w 3 v l.length (nodeCells l)) (hfit : NodesFit l) :
    Calls Tryd.prog 8 #[v] w fun e w' => e = .returned (.int .i64 (refWrongL l)) ∧ Keeps Non w w' := by
  obtain ⟨a, cap, rfl, hl63, hcm⟩ := hv.shape
  unfold maxLen at hcm
  have HV := Lib.hid hv
  have HFIT := Lib.hid hfit
  clear hv hfit
  go_enter Tryd.func8, Tryd.ntmps8
  go_wp2_with fail
  go_loopg [6] l.length (fun gk i wr => ∃ k : Nat, gk = l.length - k ∧ k ≤ l.length ∧ i = .int .i64 k ∧ Hid (Keeps Non w wr) ∧ Hid (refWrongL l = rwGo l (l.drop k) k))
  case atStart => exact ⟨0, rfl, Nat.zero_le _, rfl, Keeps.refl _ _, rfl⟩
  case round =>
    obtain ⟨k, rfl, hk, rfl, HK, HW⟩ := hrel
    by_cases hlt : k < l.length
    · have hg : Hid (refWrongL l = if rightB l k l[k] = true then rwGo l (l.drop (k + 1)) (k + 1) else k) := by show _ = _; rw [HW.out, List.drop_eq_getElem_cons hlt]; rfl
      generalize hx : l[k] = x at *
      have HX := Lib.hid hx
      clear hx HW
      go_wp2_with fail
      refine (rright_any _ l k x wr (HV.out.non HK.out) hlt HX.out HFIT.out).mono ?_
      rintro e w1 ⟨rfl, hk1⟩
      have HK1 := Lib.hid (HK.out.trans hk1 (fun k hk => .inl hk))
      clear hk1 HK
      cases hr : rightB l k x with
      | false =>
        have HF : Hid (refWrongL l = k) := by show _ = _; rw [hg.out, if_neg (by rw [hr]; decide)]
        clear hr
        go_wp2_with fail
        go_ret
        exact ⟨int_ret HF.out.symm, HK1.out⟩
      | true =>
        have HF : Hid (refWrongL l = rwGo l (l.drop (k + 1)) (k + 1)) := by show _ = _; rw [hg.out, if_pos hr]
        clear hr
        go_wp2_with fail
        go_roundg (l.length - (k + 1))
        case measure => omega
        case rel => exact ⟨k + 1, rfl, by omega, by go_num, HK1, HF⟩
    · have hF : refWrongL l = if l = [] then 0 else -1 := by
        rw [HW.out, List.drop_eq_nil_of_le (by omega)]; rfl
      by_cases h0 : l.length = 0
      · have hb : ((l.length : Int) == 0) = true := by rw [beq_iff_eq]; omega
        have HF : Hid (refWrongL l = 0) := by show _ = _; rw [hF, if_pos (List.eq_nil_of_length_eq_zero h0)]
        clear hF h0 HW
        go_wp2_with fail
        go_ret
        exact ⟨int_ret HF.out.symm, HK.out⟩
      · have hb : ((l.length : Int) == 0) = false := by rw [beq_eq_false_iff_ne]; omega
        have HF : Hid (refWrongL l = -1) := by show _ = _; rw [hF, if_neg (fun e => h0 (by rw [e]; rfl))]
        clear hF h0 HW
        go_wp2_with fail
        go_ret
        exact ⟨int_ret HF.out.symm, HK.out⟩
end Go.Proofs.YtohbjbicmgnblaaDoor
