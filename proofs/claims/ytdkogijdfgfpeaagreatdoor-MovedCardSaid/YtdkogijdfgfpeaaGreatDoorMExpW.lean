/- (*Store).Export. -/
import Derived.Test.YtdkogijdfgfpeaaGreatDoorMExpP
import Derived.Test.YtdkogijdfgfpeaaGreatDoorMGet
import Derived.Test.YtdkogijdfgfpeaaGreatDoorMClosW
import Derived.Test.YtdkogijdfgfpeaaGreatDoorMPNext
import Derived.Test.YtdkogijdfgfpeaaGreatDoorMPack
import Derived.Laws.EntriesVeiled
set_option linter.unusedVariables false
namespace Go.Proofs.YtdkogijdfgfpeaaGreatDoor
open Go Go.RowKit
def ExpRes (L : Ents) (roots : List (List UInt8)) (E : Int) (T : List UInt8) : Prop :=
 ((∃ r ∈ roots, findE L r = none) ∧ E = 15 ∧ T = []) ∨ ((∀ r ∈ roots, (findE L r).isSome = true) ∧ ∃ K, ReachOf L roots K ∧ E = 0 ∧ T = expL (entsOf L (closL L K)))
def ExpPost (w : World) (L : Ents) (roots : List (List UInt8)) (ed : Ending) (w' : World) : Prop :=
 ∃ E T, ExpRes L roots E T ∧ ed = .returned (.tuple #[.string ⟨T.toArray⟩, .int .i64 E]) ∧ Keeps Non w w'
theorem told_find {L : Ents} {all out : List (List UInt8)} (h : Told L all out) {k : Nat} {p : List UInt8} (hk : out[k]? = some p) : ∃ e, e ∈ L ∧ findE L p = some e ∧ e.path = p := by
 obtain ⟨a, b, hab⟩ := List.append_of_mem (List.mem_of_getElem? hk)
 obtain ⟨e, he, hep, -⟩ := h.ahead a p b hab
 obtain ⟨o, ho⟩ := Option.isSome_iff_exists.1 (findE_isSome.2 ⟨e, he, hep⟩)
 exact ⟨o, (findE_some ho).1, ho, (findE_some ho).2⟩
theorem clos_ten {L : Ents} (h : StoreOk L) (K : List (List UInt8)) : (closL L K).length ≤ 10 := Nat.le_trans (toldc_len (closL_told L K)) h.ten
set_option maxHeartbeats 6400000 in
set_option maxRecDepth 100000 in
theorem export_any {F : Nat → Prop} {s : Nat} {L : Ents} (w : World) (h : StoreAt w F s L) (roots : List (List UInt8)) (vr : Value) (hr : Rd w 1 vr roots.length (svs roots)) (hrl : roots.length ≤ 1099511627776) (hrs : ∀ r ∈ roots, r.length ≤ 1099511627776) :
 Calls Tryz.prog 19 #[pv s, vr] w (ExpPost w L roots) := by
 have HS := Lib.hid h
 have HTE : Hid (Tryz.prog.underlying 82 = some (.map 9 81)) := Tryz.underlying82
 obtain ⟨ra, rc, rfl, -, hrc⟩ := hr.shape
 unfold maxLen at hrc
 have HCL := Lib.hid (closure_any w h roots _ hr hrl hrs)
 clear h hr hrs
 unfold pv at *
 go_enter Tryz.func19, Tryz.ntmps19
 go_wp2_with fail
 refine HCL.out.mono ?_
 clear HCL
 rintro ed w1 (⟨hf, rfl, hk1⟩ | ⟨hall, K, v, hK, rfl, hs1, hk1⟩)
 ·have HP : Hid (ExpPost w L roots (.returned (.tuple #[.string ⟨#[]⟩, .int .i64 15])) w1) := ⟨15, [], .inl ⟨hf, rfl, rfl⟩, rfl, hk1⟩
  clear hf hk1
  go_wp2_with fail
  refine bodyPost_ret (v := .tuple #[.string ⟨#[]⟩, .int .i64 15]) (by simp [results, Tryz.results19, go_sem]) rfl ?_
  exact HP.out
 ·have hten := clos_ten HS.out.ok K
  have HT := Lib.hid (closL_told L K)
  have HLEN := Lib.hid (exp_len HS.out.ok hten)
  have HK := Lib.hid hK
  have HALL := Lib.hid hall
  have HK1 := Lib.hid hk1
  have HS1 := Lib.hid (HS.out.non hk1)
  obtain ⟨l, hl⟩ : ∃ l, closL L K = l := ⟨_, rfl⟩
  have HLQ := Lib.hid hl
  rw [hl] at hs1 hten HT HLEN
  obtain ⟨la, lc, rfl, hl1, hl2⟩ := hs1.shape
  unfold maxLen at hl2
  have HSL := Lib.hid hs1.rd
  obtain ⟨T, hT⟩ : ∃ T, expL (entsOf L l) = T := ⟨_, rfl⟩
  have HTQ := Lib.hid hT
  rw [hT] at HLEN
  have hb0 := BuS.new w1 T (Nat.le_trans HLEN.out (by decide))
  have hq0 : T = putAll [wExport] ++ expAt L l 0 := by rw [← hT, expL_start]; simp [putAll]
  clear hall hK hk1 hl hs1 hT
  go_upto_region 5 with (fail)
  obtain ⟨bb, hbb⟩ : ∃ bb, w1.heap.size = bb := ⟨_, rfl⟩
  rw [hbb] at hb0
  rw [hbb]
  generalize w1.alloc (.cells #[.pointer none, .slice none 0 0] 93) = w2 at *
  have HB0 : Hid (BuS w1 bb T (putAll [wExport] ++ expAt L l 0) w2) := by rw [← hq0]; exact hb0
  clear hb0 hq0 hbb
  go_wp2_with fail
  refine (bs_put HB0.out [wExport] 1 _ _ rfl ?c1 rfl (by omega) (by omega) (by simp [roomOf])).mono ?_
  case c1 => rfl
  rintro e w3 ⟨rfl, hq⟩
  have HB1 := Lib.hid hq
  clear hq HB0
  go_wp2_with fail
  refine (bs_write _ HB1.out).mono ?_
  rintro e w4 ⟨rfl, hq⟩
  have HB2 := Lib.hid hq
  clear hq HB1
  go_wp2_with fail
  obtain ⟨mb, m, -, g2, g3, g4, g5, g6⟩ := HS1.out.map
  have HG2 := Lib.hid g2
  have HG3 := Lib.hid g3
  have HG5 := Lib.hid g5
  have HG6 := Lib.hid g6
  clear g2 g3 g4 g5 g6
  go_loopg [28] l.length (fun gk iv wr => ∃ k : Nat, gk = l.length - k ∧ k ≤ l.length ∧ iv = .int .i64 k ∧ Hid (BuS w1 bb T (expAt L l k) wr))
  case atStart => exact ⟨0, rfl, Nat.zero_le _, rfl, HB2⟩
  case round =>
   clear HB2
   obtain ⟨k, rfl, hk, rfl, HB⟩ := hrel
   by_cases hlt : k < l.length
   ·obtain ⟨p, hp⟩ : ∃ p, l[k]? = some p := ⟨_, List.getElem?_eq_getElem hlt⟩
    obtain ⟨e, hel, hfe, hep⟩ := told_find HT.out hp
    subst hep
    have hp12 := HS1.out.ok.pathLen (p := e.path) (by rw [hfe]; rfl)
    obtain ⟨e', q, hf', -, -, hg, hE⟩ : ∃ e' q, findE L e.path = some e' ∧ e' ∈ L ∧ e'.path = e.path ∧ getM m e.path = some (pv q) ∧ EntAt w1 F q e' := by
     rcases StoreAt.look HG3.out HG5.out HG6.out e.path with ⟨hn, -⟩ | h
     ·rw [hfe] at hn; cases hn
     ·exact h
    rw [hfe] at hf'
    cases hf'
    obtain ⟨b', o', cc, hsh, -, -, -, hltb, hcc, -⟩ := (HSL.out.non HB.out.non).pos (by omega)
    cases hsh
    have c0 : wr.cell? ⟨b', o' + k, none⟩ = some (.string ⟨e.path.toArray⟩) := (hcc k (by omega)).trans (by rw [svs_get _ _ hlt]; have := (List.getElem?_eq_some_iff.1 hp).2; rw [this]; rfl)
    have cs := (HG2.out.keeps HB.out.non fun h => h).cell 0
    simp only [List.getElem?_toArray, List.getElem?_cons_zero] at cs
    have HMB := Lib.hid (HG3.out.keeps HB.out.non fun h => h)
    have HVAL : Hid ((getM m e.path).getD (.pointer none) = .pointer (some ⟨q, 0, none⟩)) := by show _ = _; rw [hg]; rfl
    obtain ⟨h31, h32⟩ := HS1.out.ok.refsLen hel
    have hpk := (wrong_small (HS1.out.ok.good e hel).2.1).2.2
    have HR12 := Lib.hid h32
    have HBX : Hid (BuS w1 bb T ((putAll [wPath, e.path] ++ packP e.tree ++ putAll [wRefs]) ++ (refsAt e 0 ++ expAt L l (k + 1))) wr) := by
     have h1 := HB.out
     rw [expAt_step hp hfe, expEnt_eq, List.append_assoc] at h1
     exact h1
    obtain ⟨-, vt, vr, h1, h2, h3, h4, h5⟩ := hE
    obtain ⟨va, vc, rfl, hv1, hv2⟩ := h3.shape
    unfold maxLen at hv2
    have HEB := Lib.hid h1
    have HRF := Lib.hid h3
    clear hg hfe hcc hp h1 h2 h3 h4 h5 h32 hel
    go_upto_region 10 with (first | (at_lookup; refine wpl_look _ rfl _ _ _ rfl _ _ HTE.out Tryz.underlying9 (.pointer none) (Tryz.zeroValue81 _) mb m rfl HMB.out e.path rfl (by omega) ?_; rw [HVAL.out]))
    clear c0 cs HB HMB HVAL
    go_cut [] (fun wx => Hid (BuS w1 bb T (refsAt e 0 ++ expAt L l (k + 1)) wx))
    case first =>
     obtain ⟨sA, hsA⟩ : ∃ sA : ByteArray, (⟨(putAll [wPath, e.path]).toArray⟩ : ByteArray) = sA := ⟨_, rfl⟩
     obtain ⟨sB, hsB⟩ : ∃ sB : ByteArray, (⟨(packP e.tree).toArray⟩ : ByteArray) = sB := ⟨_, rfl⟩
     obtain ⟨sC, hsC⟩ : ∃ sC : ByteArray, (⟨(putAll [wRefs]).toArray⟩ : ByteArray) = sC := ⟨_, rfl⟩
     obtain ⟨sD, hsD⟩ : ∃ sD : ByteArray, sA ++ sB = sD := ⟨_, rfl⟩
     obtain ⟨sE, hsE⟩ : ∃ sE : ByteArray, sD ++ sC = sE := ⟨_, rfl⟩
     have hla : (putAll [wPath, e.path]).length ≤ 100 := Nat.le_trans (putAll_le _) (by simp [roomOf]; omega)
     have hlc : (putAll [wRefs]).length ≤ 100 := Nat.le_trans (putAll_le _) (by simp [roomOf])
     have hadd1 : ∀ W : World, (Op.stringOp .add sA sB).run Tryz.prog W = .ok (.string sD) W := fun W => by
      rw [run_string_add_sum W _ _ (by rw [← hsA, ← hsB]; show (putAll [wPath, e.path]).toArray.size + (packP e.tree).toArray.size ≤ _; simp only [List.size_toArray]; omega), hsD]
     have hde : sD = ⟨(putAll [wPath, e.path] ++ packP e.tree).toArray⟩ := by rw [← hsD, ← hsA, ← hsB, str_app]
     have hadd2 : ∀ W : World, (Op.stringOp .add sD sC).run Tryz.prog W = .ok (.string sE) W := fun W => by
      rw [run_string_add_sum W _ _ (by rw [hde, ← hsC]; show (putAll [wPath, e.path] ++ packP e.tree).toArray.size + (putAll [wRefs]).toArray.size ≤ _; simp only [List.size_toArray, List.length_append]; omega), hsE]
     have hee : sE = ⟨(putAll [wPath, e.path] ++ packP e.tree ++ putAll [wRefs]).toArray⟩ := by rw [← hsE, hde, ← hsC, str_app]
     obtain ⟨RX, hRX⟩ : ∃ RX, (putAll [wPath, e.path] ++ packP e.tree ++ putAll [wRefs]) ++ (refsAt e 0 ++ expAt L l (k + 1)) = RX := ⟨_, rfl⟩
     rw [hRX] at HBX
     have HPUT : ∀ (wx : World) (sz : Nat), BuS w1 bb T RX wx → Blk wx sz #[.string ⟨#[112, 97, 116, 104]⟩, .string ⟨e.path.toArray⟩] 9 →
      Calls Tryz.prog 41 #[.slice (some ⟨sz, 0, none⟩) 2 2] wx fun ed w' => ed = .returned (.string sA) ∧ BuS w1 bb T RX w' ∧ Keeps Non wx w' := fun wx sz hb hk => by
      rw [← hsA]
      refine (put_any _ [wPath, e.path] wx (argBlk 2 _ hk rfl rfl (by simp)) (by simp) (by simp [roomOf]; omega)).mono ?_
      rintro ed w' ⟨rfl, hk⟩
      exact ⟨rfl, hb.keeps hk, hk⟩
     have HPR : Hid (∀ (wx : World) (sz : Nat), BuS w1 bb T RX wx → Blk wx sz #[.string ⟨#[114, 101, 102, 115]⟩] 9 →
      Calls Tryz.prog 41 #[.slice (some ⟨sz, 0, none⟩) 1 1] wx fun ed w' => ed = .returned (.string sC) ∧ BuS w1 bb T RX w') := fun wx sz hb hk => by
      rw [← hsC]
      refine (put_any _ [wRefs] wx (argBlk 1 _ hk rfl rfl (by simp)) (by simp) (by simp [roomOf])).mono ?_
      rintro ed w' ⟨rfl, hk⟩
      exact ⟨rfl, hb.keeps hk⟩
     obtain ⟨sz, hsz⟩ : ∃ sz, wr.heap.size = sz := ⟨_, rfl⟩
     have HSZ := Lib.hid hsz
     have HP1 : Hid (Calls Tryz.prog 41 #[.slice (some ⟨wr.heap.size, 0, none⟩) 2 2] (wr.alloc (.cells #[.string ⟨#[112, 97, 116, 104]⟩, .string ⟨e.path.toArray⟩] 9)).drew fun ed w' => ed = .returned (.string sA) ∧ BuS w1 bb T RX w') :=
      (HPUT _ _ (HBX.out.alloc _).drew (Blk.new _ _ _)).mono fun ed w' h => ⟨h.1, h.2.1⟩
     have HP2 : Hid (Calls Tryz.prog 41 #[.slice (some ⟨wr.heap.size, 0, none⟩) 2 2] ((wr.alloc (.cells #[.string ⟨#[112, 97, 116, 104]⟩, .string ⟨e.path.toArray⟩] 9)).alloc (.cells #[.string ⟨#[114, 101, 102, 115]⟩] 9)).drew fun ed w' => ed = .returned (.string sA) ∧ BuS w1 bb T RX w' ∧ Blk w' (wr.heap.size + 1) #[.string ⟨#[114, 101, 102, 115]⟩] 9) :=
      (HPUT _ _ ((HBX.out.alloc _).alloc _).drew ((Blk.new _ _ _).alloc _)).mono fun ed w' h => ⟨h.1, h.2.1, by
        have h1 := (Blk.new (wr.alloc (.cells #[.string ⟨#[112, 97, 116, 104]⟩, .string ⟨e.path.toArray⟩] 9)) #[.string ⟨#[114, 101, 102, 115]⟩] 9).keeps ((Keeps.refl Non _).drew.tn h.2.2) (fun h => h)
        simpa using h1⟩
     have HP3 : Hid (Calls Tryz.prog 41 #[.slice (some ⟨wr.heap.size + 1, 0, none⟩) 2 2] ((wr.alloc (.cells #[.string ⟨#[114, 101, 102, 115]⟩] 9)).alloc (.cells #[.string ⟨#[112, 97, 116, 104]⟩, .string ⟨e.path.toArray⟩] 9)).drew fun ed w' => ed = .returned (.string sA) ∧ BuS w1 bb T RX w' ∧ Blk w' wr.heap.size #[.string ⟨#[114, 101, 102, 115]⟩] 9) :=
      (HPUT _ _ ((HBX.out.alloc _).alloc _).drew (show Blk ((wr.alloc (.cells #[.string ⟨#[114, 101, 102, 115]⟩] 9)).alloc (.cells #[.string ⟨#[112, 97, 116, 104]⟩, .string ⟨e.path.toArray⟩] 9)) (wr.heap.size + 1) #[.string ⟨#[112, 97, 116, 104]⟩, .string ⟨e.path.toArray⟩] 9 by
        have h1 := Blk.new (wr.alloc (.cells #[.string ⟨#[114, 101, 102, 115]⟩] 9)) #[.string ⟨#[112, 97, 116, 104]⟩, .string ⟨e.path.toArray⟩] 9
        simpa using h1)).mono fun ed w' h => ⟨h.1, h.2.1, ((Blk.new wr #[.string ⟨#[114, 101, 102, 115]⟩] 9).alloc _).keeps ((Keeps.refl Non _).drew.tn h.2.2) (fun h => h)⟩
     clear HPUT hsz
     obtain ⟨nn, hnn⟩ : ∃ nn : Int, (((putAll [wPath, e.path] ++ packP e.tree ++ putAll [wRefs]).length : Nat) : Int) = nn := ⟨_, rfl⟩
     have HWR : Hid (∀ wx, BuS w1 bb T RX wx → Calls Tryz.prog 40 #[.pointer (some ⟨bb, 0, none⟩), .string sE] wx fun ed w' => ed = .returned (.tuple #[.int .i64 nn, .nilIface]) ∧ BuS w1 bb T (refsAt e 0 ++ expAt L l (k + 1)) w') := fun wx hb => by
      rw [hee, ← hnn]
      exact bs_write _ (by rw [hRX]; exact hb)
     clear hnn
     have HQC : Hid (∀ wx, BuS w1 bb T RX wx → wx.cell? ⟨q, 0, none⟩ = some (.string sB)) := fun wx hb => by
      rw [← hsB]
      exact (HEB.out.keeps hb.non fun h => h).cell 0
     have HQE : Hid (∀ wx, BuS w1 bb T (refsAt e 0 ++ expAt L l (k + 1)) wx → wx.cell? ⟨q, 0, none⟩ = some (.string sB)) := fun wx hb => by
      rw [← hsB]
      exact (HEB.out.keeps hb.non fun h => h).cell 0
     have q0 := HQC.out wr HBX.out
     have HB := HBX.out
     clear HBX hsA hsB hsC hsD hsE hde hee hRX hla hlc
     go_region_held3 (fun w' => w'.cell? ⟨q, 0, none⟩ = some (.string sB)) (with_reducible first | exact q0 | exact HQC.out _ HB | exact HQC.out _ HB.drew | exact HQC.out _ (HB.alloc _).drew | exact HQC.out _ (HB.alloc _) | exact HQC.out _ ((HB.alloc _).alloc _).drew) (first
      | (go_at_call 41
         with_reducible refine HP1.out.mono ?_
         clear HP1 HP2 HP3
         rintro ed w' ⟨rfl, hq⟩
         clear HB
         have HB := hq
         clear hq
         have q0 := HQC.out _ HB)
      | (go_at_call 41
         with_reducible refine HP2.out.mono ?_
         clear HP1 HP2 HP3
         rintro ed w' ⟨rfl, hq, hbR⟩
         clear HB
         have HB := hq
         clear hq
         have q0 := HQC.out _ HB)
      | (go_at_call 41
         with_reducible refine HP3.out.mono ?_
         clear HP1 HP2 HP3
         rintro ed w' ⟨rfl, hq, hbR⟩
         clear HB
         have HB := hq
         clear hq
         have q0 := HQC.out _ HB)
      | (go_at_call 41
         with_reducible refine (HPR.out _ _ HB hbR).mono ?_
         clear HPR
         rintro ed w' ⟨rfl, hq⟩
         clear HB
         have HB := hq
         clear hq
         have q0 := HQC.out _ HB)
      | (go_at_call 41
         refine (HPR.out _ _ (HB.alloc _) (Blk.new _ _ _)).mono ?_
         clear HPR
         rintro ed w' ⟨rfl, hq⟩
         clear HB
         have HB := hq
         clear hq
         have q0 := HQC.out _ HB)
      | (go_at_call 40
         refine (HWR.out _ HB).mono ?_
         rintro ed w' ⟨rfl, hq⟩
         have q0 := HQE.out _ hq))
     all_goals (go_wp2_with fail)
     all_goals go_meet
     all_goals exact hq
    case rest =>
     have HB1 : Hid (BuS w1 bb T (refsAt e 0 ++ expAt L l (k + 1)) wc) := hcut
     generalize wc = w5 at *
     have q2 : w5.cell? ⟨q, 2, none⟩ = some (.slice va e.refs.length vc) := (HEB.out.keeps HB1.out.non fun h => h).cell 2
     clear HBX
     go_wp2_with fail
     go_loopg [55] e.refs.length (fun gj jv wq => ∃ j : Nat, gj = e.refs.length - j ∧ j ≤ e.refs.length ∧ jv = .int .i64 j ∧ Hid (BuS w1 bb T (refsAt e j ++ expAt L l (k + 1)) wq))
     case atStart => exact ⟨0, rfl, Nat.zero_le _, rfl, HB1⟩
     case round =>
      clear HB1 q2
      obtain ⟨j, rfl, hj, rfl, HB⟩ := hrel
      by_cases hjl : j < e.refs.length
      ·obtain ⟨y, hy⟩ : ∃ y, e.refs[j]? = some y := ⟨_, List.getElem?_eq_getElem hjl⟩
       have hy12 := HR12.out y (List.mem_of_getElem? hy)
       obtain ⟨b2, o2, cc2, hsh, -, -, -, hltb2, hcc, -⟩ := (HRF.out.non HB.out.non).pos (by omega)
       cases hsh
       have c1 : wr.cell? ⟨b2, o2 + j, none⟩ = some (.string ⟨y.toArray⟩) := (hcc j (by omega)).trans (by rw [svs_get _ _ hjl]; have := (List.getElem?_eq_some_iff.1 hy).2; rw [this]; rfl)
       have HBY : Hid (BuS w1 bb T (putAll [wRef, y] ++ (refsAt e (j + 1) ++ expAt L l (k + 1))) wr) := by
        have h1 := HB.out
        rw [refsAt_step hy, List.append_assoc] at h1
        exact h1
       clear hcc hy HB
       go_wp2_with fail
       refine (bs_put HBY.out [wRef, y] 2 _ _ rfl ?c2 rfl (by omega) (by omega) (by simp [roomOf]; omega)).mono ?_
       case c2 => rfl
       rintro e2 w6 ⟨rfl, hq⟩
       have HB1 := Lib.hid hq
       clear hq HBY c1
       go_wp2_with fail
       refine (bs_write _ HB1.out).mono ?_
       rintro e2 w7 ⟨rfl, hq⟩
       have HB2 := Lib.hid hq
       clear hq HB1
       go_wp2_with fail
       go_roundg (e.refs.length - (j + 1))
       case measure => omega
       case rel => exact ⟨j + 1, rfl, by omega, by go_num, HB2⟩
      ·have hj2 : e.refs.length = j := by omega
       subst hj2
       have HBY : Hid (BuS w1 bb T (putAll [wSum, (sumOf (packP e.tree)).data.toList] ++ expAt L l (k + 1)) wr) := by
        have h1 := HB.out
        rw [refsAt_end] at h1
        exact h1
       have q0 : wr.cell? ⟨q, 0, none⟩ = some (.string ⟨(packP e.tree).toArray⟩) := (HEB.out.keeps HB.out.non fun h => h).cell 0
       clear HB
       go_wp2_with fail
       refine (sum_any _ _ (by show (packP e.tree).toArray.size ≤ _; simp [maxLen]; omega)).mono ?_
       rintro e2 w6 ⟨rfl, hk6⟩
       have HB1 := Lib.hid (HBY.out.keeps hk6)
       have hsl := sumOf_len (packP e.tree)
       clear hk6 HBY q0
       go_wp2_with fail
       refine (bs_put HB1.out [wSum, (sumOf (packP e.tree)).data.toList] 2 _ _ rfl ?c3 rfl (by omega) (by omega) (by simp only [roomOf, List.map_cons, List.sum_cons, List.map_nil, List.sum_nil]; rw [hsl]; decide)).mono ?_
       case c3 => rfl
       rintro e2 w7 ⟨rfl, hq⟩
       have HB2 := Lib.hid hq
       clear hq HB1
       go_wp2_with fail
       refine (bs_write _ HB2.out).mono ?_
       rintro e2 w8 ⟨rfl, hq⟩
       have HB3 := Lib.hid hq
       clear hq HB2
       go_wp2_with fail
       go_roundg (l.length - (k + 1))
       case measure => omega
       case rel => exact ⟨k + 1, rfl, by omega, by go_num, HB3⟩
   ·have hk2 : l.length = k := by omega
    subst hk2
    have HBY : Hid (BuS w1 bb T (putAll [wEnd] ++ []) wr) := by
     have h1 := HB.out
     rw [expAt_end] at h1
     have h2 : putAll [wEnd] ++ [] = putL wEnd := by simp [putAll]
     rw [h2]
     exact h1
    have hTne : T ≠ [] := by
     rw [← HTQ.out]
     intro h0
     have h1 := congrArg List.length h0
     have h2 := putL_length wExport
     simp only [expL, List.length_append, List.length_nil] at h1
     omega
    have HNE := Lib.hid hTne
    clear HB hTne
    go_wp2_with fail
    refine (bs_put HBY.out [wEnd] 1 _ _ rfl ?c4 rfl (by omega) (by omega) (by simp [roomOf])).mono ?_
    case c4 => rfl
    rintro e2 w7 ⟨rfl, hq⟩
    have HB2 := Lib.hid hq
    clear hq HBY
    go_wp2_with fail
    refine (bs_write _ HB2.out).mono ?_
    rintro e2 w8 ⟨rfl, hq⟩
    have HB3 := Lib.hid hq
    clear hq HB2
    go_wp2_with fail
    refine (bs_string HB3.out HNE.out).mono ?_
    rintro e2 w9 ⟨rfl, hk9⟩
    have HP : Hid (ExpPost w L roots (.returned (.tuple #[.string ⟨T.toArray⟩, .int .i64 0])) w9) := ⟨0, T, .inr ⟨HALL.out, K, HK.out, rfl, by rw [HLQ.out]; exact HTQ.out.symm⟩, rfl, HK1.out.tn hk9⟩
    clear hk9 HB3
    go_wp2_with fail
    refine bodyPost_ret (v := .tuple #[.string ⟨T.toArray⟩, .int .i64 0]) (by simp [results, Tryz.results19, go_sem]) rfl ?_
    exact HP.out
def WordPost (w : World) (b : Nat) (may : List (List UInt8)) (act : Act1) (ed : Ending) (w' : World) : Prop := ∃ f, ed = .returned (.agg #[.int .i64 8, f]) ∧ JobAt w' b (.word may act) f ∧ Keeps Non w w'
def WordPost2 (w : World) (b : Nat) (may : List (List UInt8)) (act : Act1) (v : Value) (ed : Ending) (w' : World) : Prop := ∃ f, ed = .returned (.agg #[.int .i64 8, f]) ∧ JobAt w' b (.word may act) f ∧ Keeps Non w w' ∧
 ∃ bm bp bt : Nat, f = .func (.func 77) #[] #[.pointer (some ⟨bm, 0, none⟩), .pointer (some ⟨bp, 0, none⟩), .pointer (some ⟨bt, 0, none⟩)] ∧ Blk w' bm #[v] 26
set_option maxHeartbeats 800000 in
set_option maxRecDepth 100000 in
theorem word_any2 (b : Nat) (may : List (List UInt8)) (act : Act1) (v : Value) (w : World) (hv : Sl w 0 9 1 v may.length (svs may)) :
 Calls Tryz.prog 46 #[.pointer (some ⟨b, 0, none⟩), actV b act, v] w (WordPost2 w b may act v) := by
 obtain ⟨a0, c0, rfl, -, -⟩ := hv.shape
 have HV := Lib.hid hv
 clear hv
 have haf : actV b act = .nilFunc ∨ ∃ fn x y, actV b act = .func fn x y := by cases act <;> first | exact .inl rfl | exact .inr ⟨_, _, _, rfl⟩
 have HK : Hid (∀ af : Value, Keeps Non w (((w.alloc (.cells #[.pointer (some ⟨b, 0, none⟩)] 151)).alloc (.cells #[af] 111)).alloc (.cells #[.slice a0 may.length c0] 26))) := fun af => (((Keeps.refl _ _).alloc _).alloc _).alloc _
 generalize hA : actV b act = af at *
 have HA := Lib.hid hA
 clear hA
 rcases haf with rfl | ⟨fn, x, y, rfl⟩
 all_goals (
  go_enter Tryz.func46, Tryz.ntmps46
  go_wp2_with fail
  refine bodyPost_ret (v := .agg #[.int .i64 8, .func (.func 77) #[] #[.pointer (some ⟨w.heap.size + 1 + 1, 0, none⟩), .pointer (some ⟨w.heap.size, 0, none⟩), .pointer (some ⟨w.heap.size + 1, 0, none⟩)]]) (by simp [results, Tryz.results46, go_sem]) rfl ?_
  refine ⟨_, rfl, ⟨_, _, _, .slice a0 may.length c0, rfl, ?_, (((HV.out.alloc _).alloc _).alloc _).alloc _, (((Blk.new w _ _).alloc _).alloc _).alloc _, ?_⟩, (HK.out _).alloc _, _, _, _, rfl, ?_⟩
  ·have h1 := fun (o1 o2 o3 : Obj) => (Blk.new ((w.alloc o1).alloc o2) #[.slice a0 may.length c0] 26).alloc o3
   simp only [World.size_alloc] at h1
   exact h1 _ _ _
  ·rw [HA.out]
   have h1 := fun (o1 o2 o3 : Obj) (a : Value) => ((Blk.new (w.alloc o1) #[a] 111).alloc o2).alloc o3
   simp only [World.size_alloc] at h1
   exact h1 _ _ _ _
  ·have h1 := fun (o1 o2 o3 : Obj) => (Blk.new ((w.alloc o1).alloc o2) #[.slice a0 may.length c0] 26).alloc o3
   simp only [World.size_alloc] at h1
   exact h1 _ _ _)
theorem word_any (b : Nat) (may : List (List UInt8)) (act : Act1) (v : Value) (w : World) (hv : Sl w 0 9 1 v may.length (svs may)) :
 Calls Tryz.prog 46 #[.pointer (some ⟨b, 0, none⟩), actV b act, v] w (WordPost w b may act) :=
 (word_any2 b may act v w hv).mono fun _ _ ⟨f, h1, h2, h3, _⟩ => ⟨f, h1, h2, h3⟩
set_option maxHeartbeats 800000 in
set_option maxRecDepth 100000 in
theorem text_any (b most : Nat) (f : Value) (hf : f.oneCell' = true) (hff : ∃ fn x y, f = .func fn x y) (w : World) :
 Calls Tryz.prog 79 #[.pointer (some ⟨b, 0, none⟩), .int .i64 most, f] w fun ed w' => ed = .returned (.agg #[.int .i64 most, f]) ∧ Keeps Non w w' := by
 obtain ⟨fn, x, y, rfl⟩ := hff
 go_enter Tryz.func79, Tryz.ntmps79
 go_wp2_with fail
 refine bodyPost_ret (v := .agg #[.int .i64 most, .func fn x y]) (by simp [results, Tryz.results79, go_sem]) rfl ⟨rfl, (Keeps.refl _ _).alloc _⟩
theorem JobAt.keeps {w w' : World} {b : Nat} {j : Job} {f : Value} (h : JobAt w b j f) (k : Keeps Non w w') : JobAt w' b j f := h.kp (Kp.of_keeps (B := 0) (Ts := []) k) (by simp)
theorem JobAt.alloc {w : World} {b : Nat} {j : Job} {f : Value} (h : JobAt w b j f) (o : Obj) : JobAt (w.alloc o) b j f := h.keeps ((Keeps.refl _ _).alloc o)
theorem wantArg {w : World} (us : List (Job × Value)) (n sz : Nat) (c : Array Value) (hsz : sz = w.heap.size) (hc : c = (wantCells us).toArray) (hn : us.length = n) (h9 : n ≤ 100) : Sl (w.alloc (.cells c 113)) 0 113 2 (.slice (some ⟨sz, 0, none⟩) n n) us.length (wantCells us) := by
 subst hn hc hsz
 exact Sl.of_new w 0 (Nat.zero_le _) 113 2 us.length (wantCells us) (wantCells_length us) (by unfold maxLen; omega)
theorem plan_new {B b : Nat} {tail : PT} {ts : List (Job × Value)} {σ : PSt} {w : World} (h : PA B b tail ts σ w) (us : List (Job × Value)) (n sz : Nat) (c : Array Value) (hsz : sz = w.heap.size) (hc : c = (wantCells us).toArray) (hn : us.length = n) (h9 : n ≤ 100) (hj : ∀ t ∈ us, JobAt w b t.1 t.2) (hl : ts.length ≤ 1099511627000) :
 Calls Tryz.prog 45 #[.pointer (some ⟨b, 0, none⟩), .slice (some ⟨sz, 0, none⟩) n n] (w.alloc (.cells c 113)) fun ed w' => ed = .returned (.tuple #[]) ∧ PA B b tail (ts ++ us.reverse) σ w' ∧ Kp B [113, TB] w w' := by
 obtain ⟨vr, vt, vl, va, h⟩ := h
 have ha := wantArg (w := w) us n sz c hsz hc hn h9
 subst hn
 have hne : vt.ownBlock ≠ some sz := by
  intro e
  have := h.todo.own_lt e
  omega
 refine (plan_any (h.alloc _) us sz 0 us.length ha hne (fun t ht => (hj t ht).alloc _) (by omega)).mono ?_
 rintro ed w' ⟨h1, h2, h3⟩
 exact ⟨h1, h2, ((Kp.refl _ _ _).alloc _).trans h3⟩
def nodeWs (f1 f2 f3 : Value) : List (Job × Value) := [(.word [wOpen] .open', f1), (.word [wType] .none, f2), (.word [wFile, wLink, wDir] .kind, f3)]
def NodePost (w : World) (b : Nat) (ed : Ending) (w' : World) : Prop := ∃ (f1 f2 f3 : Value) (bl : Nat), ed = .returned (.slice (some ⟨bl, 0, none⟩) 3 3) ∧ Sl w' 0 113 2 (.slice (some ⟨bl, 0, none⟩) 3 3) 3 (wantCells (nodeWs f1 f2 f3)) ∧ w.heap.size ≤ bl ∧ (∀ t ∈ nodeWs f1 f2 f3, JobAt w' b t.1 t.2) ∧ Keeps Non w w'
set_option maxHeartbeats 800000 in
set_option maxRecDepth 100000 in
theorem node_any (b : Nat) (w : World) : Calls Tryz.prog 131 #[.pointer (some ⟨b, 0, none⟩)] w (NodePost w b) := by
 go_enter Tryz.func131, Tryz.ntmps131
 go_wp2_with fail
 refine (word_any b [wOpen] .open' _ _ (putArg w 1 _ [wOpen] _ rfl rfl rfl (by simp))).mono ?_
 rintro e w1 ⟨f1, rfl, hj1, hk1⟩
 have K1 : Hid (Keeps Non w w1) := ((Keeps.refl _ _).alloc _).trans hk1 (fun k hk => .inl hk)
 have J1 := Lib.hid hj1
 clear hj1 hk1
 go_wp2_with fail
 refine (word_any b [wType] .none _ _ (putArg w1 1 _ [wType] _ rfl rfl rfl (by simp))).mono ?_
 rintro e w2 ⟨f2, rfl, hj2, hk2⟩
 have hk12 : Keeps Non w1 w2 := ((Keeps.refl _ _).alloc _).trans hk2 (fun k hk => .inl hk)
 have K2 : Hid (Keeps Non w w2) := K1.out.trans hk12 (fun k hk => .inl hk)
 have J12 := Lib.hid (J1.out.keeps hk12)
 have J2 := Lib.hid hj2
 clear hj2 hk2 hk12
 go_wp2_with fail
 refine (word_any b [wFile, wLink, wDir] .kind _ _ (putArg w2 3 _ [wFile, wLink, wDir] _ rfl rfl rfl (by simp))).mono ?_
 rintro e w3 ⟨f3, rfl, hj3, hk3⟩
 have hk23 : Keeps Non w2 w3 := ((Keeps.refl _ _).alloc _).trans hk3 (fun k hk => .inl hk)
 have K3 : Hid (Keeps Non w w3) := K2.out.trans hk23 (fun k hk => .inl hk)
 have J13 := Lib.hid (J12.out.keeps hk23)
 have J23 := Lib.hid (J2.out.keeps hk23)
 have J3 := Lib.hid hj3
 clear hj3 hk3 hk23
 go_wp2_with fail
 go_ret
 refine ⟨f1, f2, f3, _, rfl, wantArg (nodeWs f1 f2 f3) 3 _ _ rfl rfl rfl (by omega), K3.out.size, ?_, K3.out.alloc _⟩
 intro t ht
 simp only [nodeWs, List.mem_cons, List.not_mem_nil, or_false] at ht
 rcases ht with rfl | rfl | rfl
 ·exact J13.out.alloc _
 ·exact J23.out.alloc _
 ·exact J3.out.alloc _
end Go.Proofs.YtdkogijdfgfpeaaGreatDoor
