/- (*Store).Export. -/
import Derived.Test.YtdkogijdfgfpeaaGreatDoorVExpP
import Derived.Test.YtdkogijdfgfpeaaGreatDoorVClosW
import Derived.Test.YtdkogijdfgfpeaaGreatDoorVPack
import Derived.Laws.EntriesVeiled
set_option linter.unusedVariables false
namespace Go.Proofs.YtdkogijdfgfpeaaGreatDoor
open Go Go.RowKit
def ExpRes (L : Ents) (roots : List (List UInt8)) (E : Int) (T : List UInt8) : Prop :=
 ((∃ r ∈ roots, findE L r = none) ∧ E = 15 ∧ T = []) ∨ ((∀ r ∈ roots, (findE L r).isSome = true) ∧ ∃ K, ReachOf L roots K ∧ E = 0 ∧ T = expL (entsOf L (closL L K)))
def ExpPost (w : World) (L : Ents) (roots : List (List UInt8)) (ed : Ending) (w' : World) : Prop :=
 ∃ E T, ExpRes L roots E T ∧ ed = .returned (.tuple #[.string ⟨T.toArray⟩, .int .i64 E]) ∧ Keeps Non w w'
theorem told_find {L : Ents} {all out : List (List UInt8)} (h : Told L all out) {k : Nat} {p : List UInt8} (hk : out[k]? = some p) : ∃ e, e ∈ L ∧ findE L p = some e ∧ e.path = p := by
 obtain ⟨a, b, hab⟩ := List.append_of_mem (List.mem_of_getElem? hk)
 obtain ⟨e, he, hep, -⟩ := h.ahead a p b hab
 obtain ⟨o, ho⟩ := Option.isSome_iff_exists.1 (findE_isSome.2 ⟨e, he, hep⟩)
 exact ⟨o, (findE_some ho).1, ho, (findE_some ho).2⟩
theorem clos_ten {L : Ents} (h : StoreOk L) (K : List (List UInt8)) : (closL L K).length ≤ 10 := Nat.le_trans (toldc_len (closL_told L K)) h.ten
set_option maxHeartbeats 6400000 in
set_option maxRecDepth 100000 in
theorem export_any {F : Nat → Prop} {s : Nat} {L : Ents} (w : World) (h : StoreAt w F s L) (roots : List (List UInt8)) (vr : Value) (hr : Rd w 1 vr roots.length (svs roots)) (hrl : roots.length ≤ 1099511627776) (hrs : ∀ r ∈ roots, r.length ≤ 1099511627776) :
 Calls Tryz.prog 19 #[pv s, vr] w (ExpPost w L roots) := by
 have HS := Lib.hid h
 have HTE : Hid (Tryz.prog.underlying 82 = some (.map 9 81)) := Tryz.underlying82
 obtain ⟨ra, rc, rfl, -, hrc⟩ := hr.shape
 unfold maxLen at hrc
 have HCL := Lib.hid (closure_any w h roots _ hr hrl hrs)
 clear h hr hrs
 unfold pv at *
 go_enter Tryz.func19, Tryz.ntmps19
 go_wp2_with fail
 refine HCL.out.mono ?_
 clear HCL
 rintro ed w1 (⟨hf, rfl, hk1⟩ | ⟨hall, K, v, hK, rfl, hs1, hk1⟩)
 ·have HP : Hid (ExpPost w L roots (.returned (.tuple #[.string ⟨#[]⟩, .int .i64 15])) w1) := ⟨15, [], .inl ⟨hf, rfl, rfl⟩, rfl, hk1⟩
  clear hf hk1
  go_wp2_with fail
  refine bodyPost_ret (v := .tuple #[.string ⟨#[]⟩, .int .i64 15]) (by simp [results, Tryz.results19, go_sem]) rfl ?_
  exact HP.out
 ·have hten := clos_ten HS.out.ok K
  have HT := Lib.hid (closL_told L K)
  have HLEN := Lib.hid (exp_len HS.out.ok hten)
  have HK := Lib.hid hK
  have HALL := Lib.hid hall
  have HK1 := Lib.hid hk1
  have HS1 := Lib.hid (HS.out.non hk1)
  obtain ⟨l, hl⟩ : ∃ l, closL L K = l := ⟨_, rfl⟩
  have HLQ := Lib.hid hl
  rw [hl] at hs1 hten HT HLEN
  obtain ⟨la, lc, rfl, hl1, hl2⟩ := hs1.shape
  unfold maxLen at hl2
  have HSL := Lib.hid hs1.rd
  obtain ⟨T, hT⟩ : ∃ T, expL (entsOf L l) = T := ⟨_, rfl⟩
  have HTQ := Lib.hid hT
  rw [hT] at HLEN
  have hb0 := BuS.new w1 T (Nat.le_trans HLEN.out (by decide))
  have hq0 : T = putAll [wExport] ++ expAt L l 0 := by rw [← hT, expL_start]; simp [putAll]
  clear hall hK hk1 hl hs1 hT
  go_upto_region 5 with (fail)
  obtain ⟨bb, hbb⟩ : ∃ bb, w1.heap.size = bb := ⟨_, rfl⟩
  rw [hbb] at hb0
  rw [hbb]
  generalize w1.alloc (.cells #[.pointer none, .slice none 0 0] 93) = w2 at *
  have HB0 : Hid (BuS w1 bb T (putAll [wExport] ++ expAt L l 0) w2) := by rw [← hq0]; exact hb0
  clear hb0 hq0 hbb
  go_wp2_with fail
  refine (bs_put HB0.out [wExport] 1 _ _ rfl ?c1 rfl (by omega) (by omega) (by simp [roomOf])).mono ?_
  case c1 => rfl
  rintro e w3 ⟨rfl, hq⟩
  have HB1 := Lib.hid hq
  clear hq HB0
  go_wp2_with fail
  refine (bs_write _ HB1.out).mono ?_
  rintro e w4 ⟨rfl, hq⟩
  have HB2 := Lib.hid hq
  clear hq HB1
  go_wp2_with fail
  obtain ⟨mb, m, -, g2, g3, g4, g5, g6⟩ := HS1.out.map
  have HG2 := Lib.hid g2
  have HG3 := Lib.hid g3
  have HG5 := Lib.hid g5
  have HG6 := Lib.hid g6
  clear g2 g3 g4 g5 g6
  go_loopg [28] l.length (fun gk iv wr => ∃ k : Nat, gk = l.length - k ∧ k ≤ l.length ∧ iv = .int .i64 k ∧ Hid (BuS w1 bb T (expAt L l k) wr))
  case atStart => exact ⟨0, rfl, Nat.zero_le _, rfl, HB2⟩
  case round =>
   clear HB2
   obtain ⟨k, rfl, hk, rfl, HB⟩ := hrel
   by_cases hlt : k < l.length
   ·obtain ⟨p, hp⟩ : ∃ p, l[k]? = some p := ⟨_, List.getElem?_eq_getElem hlt⟩
    obtain ⟨e, hel, hfe, hep⟩ := told_find HT.out hp
    subst hep
    have hp12 := HS1.out.ok.pathLen (p := e.path) (by rw [hfe]; rfl)
    obtain ⟨e', q, hf', -, -, hg, hE⟩ : ∃ e' q, findE L e.path = some e' ∧ e' ∈ L ∧ e'.path = e.path ∧ getM m e.path = some (pv q) ∧ EntAt w1 F q e' := by
     rcases StoreAt.look HG3.out HG5.out HG6.out e.path with ⟨hn, -⟩ | h
     ·rw [hfe] at hn; cases hn
     ·exact h
    rw [hfe] at hf'
    cases hf'
    obtain ⟨b', o', cc, hsh, -, -, -, hltb, hcc, -⟩ := (HSL.out.non HB.out.non).pos (by omega)
    cases hsh
    have c0 : wr.cell? ⟨b', o' + k, none⟩ = some (.string ⟨e.path.toArray⟩) := (hcc k (by omega)).trans (by rw [svs_get _ _ hlt]; have := (List.getElem?_eq_some_iff.1 hp).2; rw [this]; rfl)
    have cs := (HG2.out.keeps HB.out.non fun h => h).cell 0
    simp only [List.getElem?_toArray, List.getElem?_cons_zero] at cs
    have HMB := Lib.hid (HG3.out.keeps HB.out.non fun h => h)
    have HVAL : Hid ((getM m e.path).getD (.pointer none) = .pointer (some ⟨q, 0, none⟩)) := by show _ = _; rw [hg]; rfl
    obtain ⟨h31, h32⟩ := HS1.out.ok.refsLen hel
    have hpk := (wrong_small (HS1.out.ok.good e hel).2.1).2.2
    have HR12 := Lib.hid h32
    have HBX : Hid (BuS w1 bb T ((putAll [wPath, e.path] ++ packP e.tree ++ putAll [wRefs]) ++ (refsAt e 0 ++ expAt L l (k + 1))) wr) := by
     have h1 := HB.out
     rw [expAt_step hp hfe, expEnt_eq, List.append_assoc] at h1
     exact h1
    obtain ⟨-, vt, vr, h1, h2, h3, h4, h5⟩ := hE
    obtain ⟨va, vc, rfl, hv1, hv2⟩ := h3.shape
    unfold maxLen at hv2
    have HEB := Lib.hid h1
    have HRF := Lib.hid h3
    clear hg hfe hcc hp h1 h2 h3 h4 h5 h32 hel
    go_upto_region 10 with (first | (at_lookup; refine wpl_look _ rfl _ _ _ rfl _ _ HTE.out Tryz.underlying9 (.pointer none) (Tryz.zeroValue81 _) mb m rfl HMB.out e.path rfl (by omega) ?_; rw [HVAL.out]))
    clear c0 cs HB HMB HVAL
    go_cut [] (fun wx => Hid (BuS w1 bb T (refsAt e 0 ++ expAt L l (k + 1)) wx))
    case first =>
     obtain ⟨sA, hsA⟩ : ∃ sA : ByteArray, (⟨(putAll [wPath, e.path]).toArray⟩ : ByteArray) = sA := ⟨_, rfl⟩
     obtain ⟨sB, hsB⟩ : ∃ sB : ByteArray, (⟨(packP e.tree).toArray⟩ : ByteArray) = sB := ⟨_, rfl⟩
     obtain ⟨sC, hsC⟩ : ∃ sC : ByteArray, (⟨(putAll [wRefs]).toArray⟩ : ByteArray) = sC := ⟨_, rfl⟩
     obtain ⟨sD, hsD⟩ : ∃ sD : ByteArray, sA ++ sB = sD := ⟨_, rfl⟩
     obtain ⟨sE, hsE⟩ : ∃ sE : ByteArray, sD ++ sC = sE := ⟨_, rfl⟩
     have hla : (putAll [wPath, e.path]).length ≤ 100 := Nat.le_trans (putAll_le _) (by simp [roomOf]; omega)
     have hlc : (putAll [wRefs]).length ≤ 100 := Nat.le_trans (putAll_le _) (by simp [roomOf])
     have hadd1 : ∀ W : World, (Op.stringOp .add sA sB).run Tryz.prog W = .ok (.string sD) W := fun W => by
      rw [run_string_add_sum W _ _ (by rw [← hsA, ← hsB]; show (putAll [wPath, e.path]).toArray.size + (packP e.tree).toArray.size ≤ _; simp only [List.size_toArray]; omega), hsD]
     have hde : sD = ⟨(putAll [wPath, e.path] ++ packP e.tree).toArray⟩ := by rw [← hsD, ← hsA, ← hsB, str_app]
     have hadd2 : ∀ W : World, (Op.stringOp .add sD sC).run Tryz.prog W = .ok (.string sE) W := fun W => by
      rw [run_string_add_sum W _ _ (by rw [hde, ← hsC]; show (putAll [wPath, e.path] ++ packP e.tree).toArray.size + (putAll [wRefs]).toArray.size ≤ _; simp only [List.size_toArray, List.length_append]; omega), hsE]
     have hee : sE = ⟨(putAll [wPath, e.path] ++ packP e.tree ++ putAll [wRefs]).toArray⟩ := by rw [← hsE, hde, ← hsC, str_app]
     obtain ⟨RX, hRX⟩ : ∃ RX, (putAll [wPath, e.path] ++ packP e.tree ++ putAll [wRefs]) ++ (refsAt e 0 ++ expAt L l (k + 1)) = RX := ⟨_, rfl⟩
     rw [hRX] at HBX
     have HPUT : ∀ (wx : World) (sz : Nat), BuS w1 bb T RX wx → Blk wx sz #[.string ⟨#[112, 97, 116, 104]⟩, .string ⟨e.path.toArray⟩] 9 →
      Calls Tryz.prog 41 #[.slice (some ⟨sz, 0, none⟩) 2 2] wx fun ed w' => ed = .returned (.string sA) ∧ BuS w1 bb T RX w' ∧ Keeps Non wx w' := fun wx sz hb hk => by
      rw [← hsA]
      refine (put_any _ [wPath, e.path] wx (argBlk 2 _ hk rfl rfl (by simp)) (by simp) (by simp [roomOf]; omega)).mono ?_
      rintro ed w' ⟨rfl, hk⟩
      exact ⟨rfl, hb.keeps hk, hk⟩
     have HPR : Hid (∀ (wx : World) (sz : Nat), BuS w1 bb T RX wx → Blk wx sz #[.string ⟨#[114, 101, 102, 115]⟩] 9 →
      Calls Tryz.prog 41 #[.slice (some ⟨sz, 0, none⟩) 1 1] wx fun ed w' => ed = .returned (.string sC) ∧ BuS w1 bb T RX w') := fun wx sz hb hk => by
      rw [← hsC]
      refine (put_any _ [wRefs] wx (argBlk 1 _ hk rfl rfl (by simp)) (by simp) (by simp [roomOf])).mono ?_
      rintro ed w' ⟨rfl, hk⟩
      exact ⟨rfl, hb.keeps hk⟩
     obtain ⟨sz, hsz⟩ : ∃ sz, wr.heap.size = sz := ⟨_, rfl⟩
     have HSZ := Lib.hid hsz
     have HP1 : Hid (Calls Tryz.prog 41 #[.slice (some ⟨wr.heap.size, 0, none⟩) 2 2] (wr.alloc (.cells #[.string ⟨#[112, 97, 116, 104]⟩, .string ⟨e.path.toArray⟩] 9)).drew fun ed w' => ed = .returned (.string sA) ∧ BuS w1 bb T RX w') :=
      (HPUT _ _ (HBX.out.alloc _).drew (Blk.new _ _ _)).mono fun ed w' h => ⟨h.1, h.2.1⟩
     have HP2 : Hid (Calls Tryz.prog 41 #[.slice (some ⟨wr.heap.size, 0, none⟩) 2 2] ((wr.alloc (.cells #[.string ⟨#[112, 97, 116, 104]⟩, .string ⟨e.path.toArray⟩] 9)).alloc (.cells #[.string ⟨#[114, 101, 102, 115]⟩] 9)).drew fun ed w' => ed = .returned (.string sA) ∧ BuS w1 bb T RX w' ∧ Blk w' (wr.heap.size + 1) #[.string ⟨#[114, 101, 102, 115]⟩] 9) :=
      (HPUT _ _ ((HBX.out.alloc _).alloc _).drew ((Blk.new _ _ _).alloc _)).mono fun ed w' h => ⟨h.1, h.2.1, by
        have h1 := (Blk.new (wr.alloc (.cells #[.string ⟨#[112, 97, 116, 104]⟩, .string ⟨e.path.toArray⟩] 9)) #[.string ⟨#[114, 101, 102, 115]⟩] 9).keeps ((Keeps.refl Non _).drew.tn h.2.2) (fun h => h)
        simpa using h1⟩
     have HP3 : Hid (Calls Tryz.prog 41 #[.slice (some ⟨wr.heap.size + 1, 0, none⟩) 2 2] ((wr.alloc (.cells #[.string ⟨#[114, 101, 102, 115]⟩] 9)).alloc (.cells #[.string ⟨#[112, 97, 116, 104]⟩, .string ⟨e.path.toArray⟩] 9)).drew fun ed w' => ed = .returned (.string sA) ∧ BuS w1 bb T RX w' ∧ Blk w' wr.heap.size #[.string ⟨#[114, 101, 102, 115]⟩] 9) :=
      (HPUT _ _ ((HBX.out.alloc _).alloc _).drew (show Blk ((wr.alloc (.cells #[.string ⟨#[114, 101, 102, 115]⟩] 9)).alloc (.cells #[.string ⟨#[112, 97, 116, 104]⟩, .string ⟨e.path.toArray⟩] 9)) (wr.heap.size + 1) #[.string ⟨#[112, 97, 116, 104]⟩, .string ⟨e.path.toArray⟩] 9 by
        have h1 := Blk.new (wr.alloc (.cells #[.string ⟨#[114, 101, 102, 115]⟩] 9)) #[.string ⟨#[112, 97, 116, 104]⟩, .string ⟨e.path.toArray⟩] 9
        simpa using h1)).mono fun ed w' h => ⟨h.1, h.2.1, ((Blk.new wr #[.string ⟨#[114, 101, 102, 115]⟩] 9).alloc _).keeps ((Keeps.refl Non _).drew.tn h.2.2) (fun h => h)⟩
     clear HPUT hsz
     obtain ⟨nn, hnn⟩ : ∃ nn : Int, (((putAll [wPath, e.path] ++ packP e.tree ++ putAll [wRefs]).length : Nat) : Int) = nn := ⟨_, rfl⟩
     have HWR : Hid (∀ wx, BuS w1 bb T RX wx → Calls Tryz.prog 40 #[.pointer (some ⟨bb, 0, none⟩), .string sE] wx fun ed w' => ed = .returned (.tuple #[.int .i64 nn, .nilIface]) ∧ BuS w1 bb T (refsAt e 0 ++ expAt L l (k + 1)) w') := fun wx hb => by
      rw [hee, ← hnn]
      exact bs_write _ (by rw [hRX]; exact hb)
     clear hnn
     have HQC : Hid (∀ wx, BuS w1 bb T RX wx → wx.cell? ⟨q, 0, none⟩ = some (.string sB)) := fun wx hb => by
      rw [← hsB]
      exact (HEB.out.keeps hb.non fun h => h).cell 0
     have HQE : Hid (∀ wx, BuS w1 bb T (refsAt e 0 ++ expAt L l (k + 1)) wx → wx.cell? ⟨q, 0, none⟩ = some (.string sB)) := fun wx hb => by
      rw [← hsB]
      exact (HEB.out.keeps hb.non fun h => h).cell 0
     have q0 := HQC.out wr HBX.out
     have HB := HBX.out
     clear HBX hsA hsB hsC hsD hsE hde hee hRX hla hlc
     go_region_held3 (fun w' => w'.cell? ⟨q, 0, none⟩ = some (.string sB)) (with_reducible first | exact q0 | exact HQC.out _ HB | exact HQC.out _ HB.drew | exact HQC.out _ (HB.alloc _).drew | exact HQC.out _ (HB.alloc _) | exact HQC.out _ ((HB.alloc _).alloc _).drew) (first
      | (go_at_call 41
         with_reducible refine HP1.out.mono ?_
         clear HP1 HP2 HP3
         rintro ed w' ⟨rfl, hq⟩
         clear HB
         have HB := hq
         clear hq
         have q0 := HQC.out _ HB)
      | (go_at_call 41
         with_reducible refine HP2.out.mono ?_
         clear HP1 HP2 HP3
         rintro ed w' ⟨rfl, hq, hbR⟩
         clear HB
         have HB := hq
         clear hq
         have q0 := HQC.out _ HB)
      | (go_at_call 41
         with_reducible refine HP3.out.mono ?_
         clear HP1 HP2 HP3
         rintro ed w' ⟨rfl, hq, hbR⟩
         clear HB
         have HB := hq
         clear hq
         have q0 := HQC.out _ HB)
      | (go_at_call 41
         with_reducible refine (HPR.out _ _ HB hbR).mono ?_
         clear HPR
         rintro ed w' ⟨rfl, hq⟩
         clear HB
         have HB := hq
         clear hq
         have q0 := HQC.out _ HB)
      | (go_at_call 41
         refine (HPR.out _ _ (HB.alloc _) (Blk.new _ _ _)).mono ?_
         clear HPR
         rintro ed w' ⟨rfl, hq⟩
         clear HB
         have HB := hq
         clear hq
         have q0 := HQC.out _ HB)
      | (go_at_call 40
         refine (HWR.out _ HB).mono ?_
         rintro ed w' ⟨rfl, hq⟩
         have q0 := HQE.out _ hq))
     all_goals (go_wp2_with fail)
     all_goals go_meet
     all_goals exact hq
    case rest =>
     have HB1 : Hid (BuS w1 bb T (refsAt e 0 ++ expAt L l (k + 1)) wc) := hcut
     generalize wc = w5 at *
     have q2 : w5.cell? ⟨q, 2, none⟩ = some (.slice va e.refs.length vc) := (HEB.out.keeps HB1.out.non fun h => h).cell 2
     clear HBX
     go_wp2_with fail
     go_loopg [55] e.refs.length (fun gj jv wq => ∃ j : Nat, gj = e.refs.length - j ∧ j ≤ e.refs.length ∧ jv = .int .i64 j ∧ Hid (BuS w1 bb T (refsAt e j ++ expAt L l (k + 1)) wq))
     case atStart => exact ⟨0, rfl, Nat.zero_le _, rfl, HB1⟩
     case round =>
      clear HB1 q2
      obtain ⟨j, rfl, hj, rfl, HB⟩ := hrel
      by_cases hjl : j < e.refs.length
      ·obtain ⟨y, hy⟩ : ∃ y, e.refs[j]? = some y := ⟨_, List.getElem?_eq_getElem hjl⟩
       have hy12 := HR12.out y (List.mem_of_getElem? hy)
       obtain ⟨b2, o2, cc2, hsh, -, -, -, hltb2, hcc, -⟩ := (HRF.out.non HB.out.non).pos (by omega)
       cases hsh
       have c1 : wr.cell? ⟨b2, o2 + j, none⟩ = some (.string ⟨y.toArray⟩) := (hcc j (by omega)).trans (by rw [svs_get _ _ hjl]; have := (List.getElem?_eq_some_iff.1 hy).2; rw [this]; rfl)
       have HBY : Hid (BuS w1 bb T (putAll [wRef, y] ++ (refsAt e (j + 1) ++ expAt L l (k + 1))) wr) := by
        have h1 := HB.out
        rw [refsAt_step hy, List.append_assoc] at h1
        exact h1
       clear hcc hy HB
       go_wp2_with fail
       refine (bs_put HBY.out [wRef, y] 2 _ _ rfl ?c2 rfl (by omega) (by omega) (by simp [roomOf]; omega)).mono ?_
       case c2 => rfl
       rintro e2 w6 ⟨rfl, hq⟩
       have HB1 := Lib.hid hq
       clear hq HBY c1
       go_wp2_with fail
       refine (bs_write _ HB1.out).mono ?_
       rintro e2 w7 ⟨rfl, hq⟩
       have HB2 := Lib.hid hq
       clear hq HB1
       go_wp2_with fail
       go_roundg (e.refs.length - (j + 1))
       case measure => omega
       case rel => exact ⟨j + 1, rfl, by omega, by go_num, HB2⟩
      ·have hj2 : e.refs.length = j := by omega
       subst hj2
       have HBY : Hid (BuS w1 bb T (putAll [wSum, (sumOf (packP e.tree)).data.toList] ++ expAt L l (k + 1)) wr) := by
        have h1 := HB.out
        rw [refsAt_end] at h1
        exact h1
       have q0 : wr.cell? ⟨q, 0, none⟩ = some (.string ⟨(packP e.tree).toArray⟩) := (HEB.out.keeps HB.out.non fun h => h).cell 0
       clear HB
       go_wp2_with fail
       refine (sum_any _ _ (by show (packP e.tree).toArray.size ≤ _; simp [maxLen]; omega)).mono ?_
       rintro e2 w6 ⟨rfl, hk6⟩
       have HB1 := Lib.hid (HBY.out.keeps hk6)
       have hsl := sumOf_len (packP e.tree)
       clear hk6 HBY q0
       go_wp2_with fail
       refine (bs_put HB1.out [wSum, (sumOf (packP e.tree)).data.toList] 2 _ _ rfl ?c3 rfl (by omega) (by omega) (by simp only [roomOf, List.map_cons, List.sum_cons, List.map_nil, List.sum_nil]; rw [hsl]; decide)).mono ?_
       case c3 => rfl
       rintro e2 w7 ⟨rfl, hq⟩
       have HB2 := Lib.hid hq
       clear hq HB1
       go_wp2_with fail
       refine (bs_write _ HB2.out).mono ?_
       rintro e2 w8 ⟨rfl, hq⟩
       have HB3 := Lib.hid hq
       clear hq HB2
       go_wp2_with fail
       go_roundg (l.length - (k + 1))
       case measure => omega
       case rel => exact ⟨k + 1, rfl, by omega, by go_num, HB3⟩
   ·have hk2 : l.length = k := by omega
    subst hk2
    have HBY : Hid (BuS w1 bb T (putAll [wEnd] ++ []) wr) := by
     have h1 := HB.out
     rw [expAt_end] at h1
     have h2 : putAll [wEnd] ++ [] = putL wEnd := by simp [putAll]
     rw [h2]
     exact h1
    have hTne : T ≠ [] := by
     rw [← HTQ.out]
     intro h0
     have h1 := congrArg List.length h0
     have h2 := putL_length wExport
     simp only [expL, List.length_append, List.length_nil] at h1
     omega
    have HNE := Lib.hid hTne
    clear HB hTne
    go_wp2_with fail
    refine (bs_put HBY.out [wEnd] 1 _ _ rfl ?c4 rfl (by omega) (by omega) (by simp [roomOf])).mono ?_
    case c4 => rfl
    rintro e2 w7 ⟨rfl, hq⟩
    have HB2 := Lib.hid hq
    clear hq HBY
    go_wp2_with fail
    refine (bs_write _ HB2.out).mono ?_
    rintro e2 w8 ⟨rfl, hq⟩
    have HB3 := Lib.hid hq
    clear hq HB2
    go_wp2_with fail
    refine (bs_string HB3.out HNE.out).mono ?_
    rintro e2 w9 ⟨rfl, hk9⟩
    have HP : Hid (ExpPost w L roots (.returned (.tuple #[.string ⟨T.toArray⟩, .int .i64 0])) w9) := ⟨0, T, .inr ⟨HALL.out, K, HK.out, rfl, by rw [HLQ.out]; exact HTQ.out.symm⟩, rfl, HK1.out.tn hk9⟩
    clear hk9 HB3
    go_wp2_with fail
    refine bodyPost_ret (v := .tuple #[.string ⟨T.toArray⟩, .int .i64 0]) (by simp [results, Tryz.results19, go_sem]) rfl ?_
    exact HP.out
def lf (s : List UInt8) : Node := ⟨[], 1, s⟩
structure KRow where
 name : List UInt8
 l : List Node
 refs : List (List UInt8)
 e : Int
def kAB : List (List UInt8) := [[98], [97]]
def kM : List (List UInt8) := [[109]]
def kLong : List UInt8 := [49, 50, 51, 52, 53, 54, 55, 56, 57, 48, 49, 50, 51]
def kRows : List KRow := [⟨[], [lf []], [], 11⟩, ⟨[65], [], kAB, 11⟩, ⟨kLong, [lf []], [], 11⟩, ⟨[97], [], kAB, 1⟩, ⟨[97], [lf []], kAB, 7⟩, ⟨[97], [lf []], [[97], [97]], 7⟩, ⟨[97], [lf []], [[98]], 13⟩,
 ⟨[109], [lf [109]], kM, 0⟩, ⟨[109], [lf [109]], kM, 0⟩, ⟨[109], [lf [110]], kM, 12⟩, ⟨[109], [lf [109]], [], 12⟩, ⟨[109], [lf [110]], [[120]], 13⟩, ⟨[122], [lf [122]], kM, 0⟩, ⟨[98], [lf [98]], kM, 0⟩, ⟨[97], [lf [97]], [[98], [122]], 0⟩]
def kIns (L : Ents) (r : KRow) : Ents := (insE L r.name r.l r.refs).2
def kSt (i : Nat) : Ents := (kRows.take i).foldl kIns []
theorem kSt_succ {i : Nat} {r : KRow} (h : kRows[i]? = some r) : kSt (i + 1) = kIns (kSt i) r := by
 unfold kSt
 obtain ⟨hi, rfl⟩ := List.getElem?_eq_some_iff.1 h
 rw [List.take_add_one, List.getElem?_eq_getElem hi, Option.toList_some, List.foldl_append]
 rfl
def kRowB (i : Nat) : Bool := match kRows[i]? with
 | some r => (insE (kSt i) r.name r.l r.refs).1 == r.e
 | none => true
theorem kRow_all : (List.range 15).all kRowB = true := by decide +kernel
theorem kRow_ins {i : Nat} {r : KRow} (h : kRows[i]? = some r) : insE (kSt i) r.name r.l r.refs = (r.e, kSt (i + 1)) := by
 obtain ⟨hi, -⟩ := List.getElem?_eq_some_iff.1 h
 have h1 := List.all_eq_true.1 kRow_all i (List.mem_range.2 hi)
 unfold kRowB at h1
 rw [h] at h1
 rw [kSt_succ h]
 exact Prod.ext (by simpa using h1) rfl
def kSmallB (r : KRow) : Bool := decide (r.name.length ≤ 1000) && r.l.all (fun n => decide (n.path.length ≤ 1000) && decide (n.data.length ≤ 1000)) && decide ((packP r.l).length ≤ 1000) && decide (r.refs.length ≤ 1000) && r.refs.all fun p => decide (p.length ≤ 1000)
theorem kSmall_all : kRows.all kSmallB = true := by decide +kernel
theorem kSmall {r : KRow} (h : r ∈ kRows) : r.name.length ≤ 1000 ∧ NodesSmall r.l ∧ (packP r.l).length ≤ 1000 ∧ r.refs.length ≤ 1000 ∧ ∀ p ∈ r.refs, p.length ≤ 1000 := by
 have h1 := List.all_eq_true.1 kSmall_all r h
 unfold kSmallB at h1
 simp only [Bool.and_eq_true, List.all_eq_true, decide_eq_true_eq] at h1
 obtain ⟨⟨⟨⟨h1, h2⟩, h3⟩, h4⟩, h5⟩ := h1
 exact ⟨h1, fun n hn => ⟨Nat.le_trans (h2 n hn).1 (by decide), Nat.le_trans (h2 n hn).2 (by decide)⟩, h3, h4, h5⟩
def kTold : RE CX → Int × Int
 | .error e => e
 | .ok _ => (0, 0)
def kOne : List UInt8 := packP [lf [109]]
def kTwo : List UInt8 := packP [lf [98]]
def kNone : List UInt8 := putAll [wExport, wEnd]
def kPath : List UInt8 := putAll [wExport, wPath]
def kWhole : List UInt8 := kPath ++ putAll kM ++ kOne ++ putAll [wRefs]
def kSum : List UInt8 := (sumOf kOne).data.toList
structure KImp where
 s : List UInt8
 e : Int
 at' : Int
def kImps : List KImp := [⟨kNone, 0, 0⟩, ⟨kNone ++ [120], 10, 32⟩, ⟨putAll [[101, 120, 112, 111, 114, 116, 45, 50]], 5, 0⟩, ⟨putAll [wExport], 2, 16⟩, ⟨kPath ++ putAll [[77]], 11, 32⟩, ⟨kPath ++ putAll [kLong], 3, 32⟩,
 ⟨kPath ++ putAll [[109], [110, 97, 114, 45, 50]], 5, 48⟩, ⟨kWhole ++ putAll [wEnd], 5, 176⟩, ⟨kWhole ++ putAll [wRef, [113]], 13, 192⟩, ⟨kWhole ++ putAll [wRef, [109], wRef, [109]], 7, 224⟩,
 ⟨kWhole ++ putAll [wSum, [49, 50, 51, 52, 53, 54, 55, 56]], 16, 192⟩, ⟨kWhole ++ putAll [wSum, kSum], 2, 208⟩, ⟨kWhole ++ putAll [wSum, kSum, wPath, [109]], 7, 224⟩, ⟨kWhole ++ putAll [wSum, kSum, wEnd], 0, 0⟩]
def kName (j : Nat) : List UInt8 := [107, 48 + UInt8.ofNat j]
def kSix (j : Nat) : Ents := (List.range j).foldl (fun L k => (insE L (kName k) [lf []] []).2) (kSt 15)
theorem kSix_all : (List.range 6).all (fun j => (insE (kSix j) (kName j) [lf []] []).1 == 0) = true := by decide +kernel
theorem kSix_ins {j : Nat} (h : j < 6) : insE (kSix j) (kName j) [lf []] [] = (0, kSix (j + 1)) := by
 have h1 := List.all_eq_true.1 kSix_all j (List.mem_range.2 h)
 refine Prod.ext (by simpa using h1) ?_
 unfold kSix
 rw [List.range_succ, List.foldl_append]
 rfl
theorem kFull_ins : insE (kSix 6) [102, 117, 108, 108] [lf []] [] = (14, kSix 6) := by kernel_rfl
theorem kM_ins : insE (kSix 6) [109] [lf [109]] kM = (0, kSix 6) := by kernel_rfl
def kLast : List UInt8 := putAll [wExport, wPath, [113]] ++ kOne ++ putAll [wRefs, wSum, kSum, wEnd]
theorem kLast_imp : kTold (importL (kSix 6) kLast) = (14, ((putAll [wExport, wPath, [113]] ++ kOne ++ putAll [wRefs, wSum]).length : Int)) := by decide +kernel
def kTree : List Node := [⟨[], 4, []⟩, ⟨[98], 4, []⟩, ⟨[98, 47, 120], 2, [114, 117, 110]⟩, ⟨[99], 3, [98, 47, 120]⟩]
def kWant : List (List UInt8) := [[110, 97, 114, 45, 49], [40], [116, 121, 112, 101], [100, 105, 114], [101, 110, 116, 114, 121], [40], [110, 97, 109, 101], [98], [110, 111, 100, 101], [40], [116, 121, 112, 101], [100, 105, 114], [101, 110, 116, 114, 121], [40], [110, 97, 109, 101], [120], [110, 111, 100, 101], [40], [116, 121, 112, 101], [102, 105, 108, 101], [101, 120, 101, 99], [], [100, 97, 116, 97], [114, 117, 110], [41], [41], [41], [41], [101, 110, 116, 114, 121], [40], [110, 97, 109, 101], [99], [110, 111, 100, 101], [40], [116, 121, 112, 101], [108, 105, 110, 107], [116, 111], [98, 47, 120], [41], [41], [41]]
theorem kTree_wrong : wrongL kTree = -1 := by decide +kernel
theorem kTree_pack : packP kTree = putAll kWant := by decide +kernel
theorem small_of {l : List Node} (h : l.all (fun n => decide (n.path.length ≤ 1000) && decide (n.data.length ≤ 1000)) = true) : NodesSmall l := fun n hn => by
 have h1 := List.all_eq_true.1 h n hn
 simp only [Bool.and_eq_true, decide_eq_true_eq] at h1
 exact ⟨Nat.le_trans h1.1 (by decide), Nat.le_trans h1.2 (by decide)⟩
theorem kTree_small : NodesSmall kTree := small_of (by decide +kernel)
theorem kTree_fit : (packP kTree).length ≤ 70368744177664 := by decide +kernel
theorem kWant_short : ∀ p ∈ kWant, p.length < 256 := by decide +kernel
theorem kSum_nil : (sumOf []).data.toList = [37, 35, 34, 132, 228, 156, 242, 203] := by decide +kernel
theorem kSum_a : (sumOf [97]).data.toList = [140, 236, 1, 134, 76, 220, 99, 175] := by decide +kernel
def kA : Ent := ⟨[97], [lf [97]], [[98], [122]]⟩
def kB : Ent := ⟨[98], [lf [98]], kM⟩
def kEM : Ent := ⟨[109], [lf [109]], kM⟩
def kZ : Ent := ⟨[122], [lf [122]], kM⟩
theorem kFour : kSt 15 = [kA, kB, kEM, kZ] := by kernel_rfl
theorem kReach : ReachOf (kSt 15) [[97]] [[97], [98], [122], [109]] := by
 rw [kFour]
 refine ⟨fun k hk => ?_, by simp, fun X hs h0 k hk => ?_, by decide⟩
 ·simp only [List.mem_cons, List.not_mem_nil, or_false] at hk
  rcases hk with rfl | rfl | rfl | rfl
  ·exact ⟨kA, by simp, rfl, by simp [kA]⟩
  ·exact ⟨kB, by simp, rfl, by simp [kB, kM]⟩
  ·exact ⟨kZ, by simp, rfl, by simp [kZ, kM]⟩
  ·exact ⟨kEM, by simp, rfl, by simp [kEM, kM]⟩
 ·have hA : X [97] := h0 _ (List.mem_singleton.2 rfl)
  have hB : X [98] := hs kA (by simp) hA [98] (by simp [kA])
  have hZ : X [122] := hs kA (by simp) hA [122] (by simp [kA])
  have hM : X [109] := hs kB (by simp) hB [109] (by simp [kB, kM])
  simp only [List.mem_cons, List.not_mem_nil, or_false] at hk
  rcases hk with rfl | rfl | rfl | rfl
  ·exact hA
  ·exact hB
  ·exact hZ
  ·exact hM
theorem kClos : closL (kSt 15) [[97], [98], [122], [109]] = [[109], [98], [122], [97]] := by kernel_rfl
theorem kReach2 : ReachOf (kSt 15) [[98], [109]] [[98], [109]] := by
 rw [kFour]
 refine ⟨fun k hk => ?_, fun r hr => hr, fun X hs h0 k hk => h0 k hk, by decide⟩
 simp only [List.mem_cons, List.not_mem_nil, or_false] at hk
 rcases hk with rfl | rfl
 ·exact ⟨kB, by simp, rfl, by simp [kB, kM]⟩
 ·exact ⟨kEM, by simp, rfl, by simp [kEM, kM]⟩
theorem kReach0 : ReachOf (kSt 15) [] [] := by
 refine ⟨fun k hk => ?_, fun r hr => hr, fun X hs h0 k hk => ?_, List.nodup_nil⟩
 ·exact absurd hk (by simp)
 ·exact absurd hk (by simp)
def kSum2 : List UInt8 := (sumOf kTwo).data.toList
def kExp : List UInt8 := putAll [wExport, wPath, [109]] ++ kOne ++ putAll [wRefs, wRef, [109], wSum, kSum, wPath, [98]] ++ kTwo ++ putAll [wRefs, wRef, [109], wSum, kSum2, wEnd]
theorem kExp_is : expL (entsOf (kSt 15) (closL (kSt 15) [[98], [109]])) = kExp := by decide +kernel
theorem kExp0_is : expL (entsOf (kSt 15) (closL (kSt 15) [])) = kNone := by decide +kernel
theorem kFind : [[97], [98], [109]].all (fun r => (findE (kSt 15) r).isSome) = true := by decide +kernel
theorem le8_short {n : Nat} (h : n < 256) : le8 n = [UInt8.ofNat n, 0, 0, 0, 0, 0, 0, 0] := by
 have h1 : ∀ i, 0 < i → n / 2 ^ (8 * i) % 256 = 0 := fun i hi => by
  rw [Nat.div_eq_of_lt (Nat.lt_of_lt_of_le h (by
   have : 2 ^ 8 ≤ 2 ^ (8 * i) := Nat.pow_le_pow_right (by decide) (by omega)
   omega))]
 have h0 : n / 2 ^ (8 * 0) % 256 = n := by simp; omega
 simp only [le8, List.range, List.range.loop, List.map, leB, h0, h1 1 (by decide), h1 2 (by decide), h1 3 (by decide), h1 4 (by decide), h1 5 (by decide), h1 6 (by decide), h1 7 (by decide)]
 rfl
theorem putL_short {s : List UInt8} (h : s.length < 256) : putL s = UInt8.ofNat s.length :: ([0, 0, 0, 0, 0, 0, 0] ++ (s ++ List.replicate (padN s.length) 0)) := by
 unfold putL
 rw [le8_short h]
 rfl
theorem putAll_take {ps : List (List UInt8)} {k : Nat} (h : k < ps.length) : putAll (ps.take (k + 1)) = putAll (ps.take k) ++ putL ps[k] := by
 unfold putAll
 rw [List.take_add_one, List.getElem?_eq_getElem h, Option.toList_some, List.flatMap_append]
 simp
set_option maxHeartbeats 1600000 in
set_option maxRecDepth 100000 in
theorem strs_any (ps : List (List UInt8)) (v : Value) (w : World) (hv : Rd w 1 v ps.length (svs ps)) (hs : ∀ p ∈ ps, p.length < 256) (hl : ps.length ≤ 1000) :
 Calls Tryz.prog 28 #[v] w fun e w' => e = .returned (.string ⟨(putAll ps).toArray⟩) ∧ Keeps Non w w' := by
 obtain ⟨a, cap, rfl, hl63, hcm⟩ := hv.shape
 unfold maxLen at hcm
 have HV := Lib.hid hv
 have HSM := Lib.hid hs
 clear hv hs
 have kc := fun (w : World) (n : Int) => run_string_one (P := Tryz.prog) 45 5 Tryz.underlying45 Tryz.underlying5 9 Tryz.underlying9 5 w n
 go_enter Tryz.func28, Tryz.ntmps28
 go_wp2_with fail
 go_loopg [3, 8] ps.length (fun gk ov iv wr => ∃ (k : Nat) (o : ByteArray), gk = ps.length - k ∧ k ≤ ps.length ∧ iv = .int .i64 k ∧ ov = .string o ∧ Hid (o.data.toList = putAll (ps.take k)) ∧ o.size ≤ k * 300 ∧ o.size % 8 = 0 ∧ Hid (Keeps Non w wr))
 case atStart => exact ⟨0, ⟨#[]⟩, rfl, Nat.zero_le _, rfl, rfl, rfl, by decide, by decide, Keeps.refl _ _⟩
 case round =>
  obtain ⟨k, o, rfl, hk, rfl, rfl, HO, ho1, ho2, HK⟩ := hrel
  by_cases hlt : k < ps.length
  ·obtain ⟨b, off, cp, hsh, -, -, -, hbl, hc, -⟩ := HV.out.pos (by omega)
   cases hsh
   have hbelow := HK.out.below (Nat.le_refl _) (fun _ _ h => h)
   obtain ⟨p, hp⟩ : ∃ p, ps[k] = p := ⟨_, rfl⟩
   have hp256 : p.length < 256 := by rw [← hp]; exact HSM.out _ (List.getElem_mem hlt)
   have c0 : wr.cell? ⟨b, off + k, none⟩ = some (.string ⟨p.toArray⟩) := (hbelow.cell (p := ⟨b, off + k, none⟩) hbl).trans ((hc k (by omega)).trans (by simp [svs, List.getElem?_eq_getElem hlt, hp]; rfl))
   have HT : Hid (putAll (ps.take (k + 1)) = o.data.toList ++ putL p) := by rw [← hp]; show _ = _; rw [putAll_take hlt, HO.out]
   clear hp hc hbelow HO
   have q2 : (0 : Int) ≤ (k : Int) := by omega
   have q3 : (k : Int) < (ps.length : Int) := by omega
   obtain ⟨P, hP⟩ : ∃ P : ByteArray, P = ⟨p.toArray⟩ := ⟨_, rfl⟩
   have hPl : P.data.toList = p := by rw [hP]
   have hPs : P.size = p.length := by rw [hP]; rfl
   rw [← hP] at c0
   have e1 : IntKind.u8.wrap (P.size : Int) = (P.size : Int) := by rw [IntKind.wrap]; simp [IntKind.bits, IntKind.signed]; omega
   have HPL := Lib.hid hPl
   rw [← hPs] at hp256
   clear hP hPs hPl
   go_upto_region 6 with (fail)
   obtain ⟨Q, hQ⟩ : ∃ Q : ByteArray, o ++ ((⟨#[UInt8.ofNat P.size]⟩ : ByteArray) ++ ⟨#[0, 0, 0, 0, 0, 0, 0]⟩ ++ P) = Q := ⟨_, rfl⟩
   rw [hQ]
   have hQs : Q.size = o.size + (8 + P.size) := by rw [← hQ]; simp only [ByteArray.size_append]; rfl
   have HQ : Hid (Q.data.toList = o.data.toList ++ (UInt8.ofNat P.size :: ([0, 0, 0, 0, 0, 0, 0] ++ P.data.toList))) := by
    show _ = _
    rw [← hQ]
    simp only [ByteArray.data_append, Array.toList_append]
    rfl
   have HK1 : Hid (Keeps Non w (wr.alloc (.cells #[.int .u8 (P.size : Int)] 5))) := HK.out.alloc _
   generalize wr.alloc (.cells #[.int .u8 (P.size : Int)] 5) = w1 at *
   clear hQ c0 HK kc HV HSM
   go_wp2_with fail
   go_loopg [3] 8 (fun gz ov wx => ∃ (j : Nat) (q : ByteArray), gz = 8 - j ∧ j ≤ padN P.size ∧ ov = .string q ∧ q.size = Q.size + j ∧ Hid (q.data.toList = Q.data.toList ++ List.replicate j 0) ∧ w1 = wx)
   case atStart => exact ⟨0, Q, rfl, Nat.zero_le _, rfl, rfl, (by show _ = _; simp), rfl⟩
   case round =>
    obtain ⟨j, q, rfl, hj, rfl, hqs, HQQ, rfl⟩ := hrel
    have hp8 := padN_lt P.size
    have hpd : padN P.size = (8 - P.size % 8) % 8 := rfl
    by_cases hz : q.size % 8 = 0
    ·have hb : ((q.size : Int) % 8 == 0) = true := by rw [beq_iff_eq]; omega
     have hb2 : (!((q.size : Int) % 8 == 0)) = false := by rw [hb]; rfl
     have hje : j = padN P.size := by omega
     have HF : Hid (q.data.toList = putAll (ps.take (k + 1))) := by
      show _ = _
      rw [HT.out, HQQ.out, HQ.out, putL_short (by rw [← HPL.out, dlen]; exact hp256), ← HPL.out, hje]
      simp only [dlen, List.append_assoc, List.cons_append]
     have hq1 : q.size ≤ (k + 1) * 300 := by omega
     clear hpd
     go_wp2_with fail
     go_roundg (ps.length - (k + 1))
     case measure => omega
     case rel => exact ⟨k + 1, q, rfl, by omega, by go_num, rfl, HF, hq1, hz, HK1⟩
    ·have hb : ((q.size : Int) % 8 == 0) = false := by rw [beq_eq_false_iff_ne]; omega
     have hb2 : (!((q.size : Int) % 8 == 0)) = true := by rw [hb]; rfl
     have hj2 : j < padN P.size := by omega
     clear hpd
     go_wp2_with fail
     go_roundg (8 - (j + 1))
     case measure => omega
     case rel =>
      refine ⟨j + 1, q ++ ⟨#[0]⟩, rfl, by omega, rfl, by rw [ByteArray.size_append, hqs]; rfl, ?_, rfl⟩
      show _ = _
      rw [ByteArray.data_append, Array.toList_append, HQQ.out, List.replicate_succ', List.append_assoc]
  ·have HF : Hid (o = ⟨(putAll ps).toArray⟩) := by
    have h1 := HO.out
    rw [List.take_of_length_le (by omega)] at h1
    show _ = _
    rw [← h1]
   go_wp2_with fail
   go_ret
   exact ⟨by rw [HF.out]; rfl, HK.out⟩
set_option maxHeartbeats 1600000 in
set_option maxRecDepth 100000 in
theorem leaf_any (s : ByteArray) (w : World) :
 Calls Tryz.prog 29 #[.string s] w fun e w' => ∃ a c, e = .returned (.slice a 1 c) ∧ Sl w' w.heap.size 49 3 (.slice a 1 c) 1 (nodeCells [⟨[], 1, s.data.toList⟩]) ∧ Keeps Non w w' := by
 go_enter Tryz.func29, Tryz.ntmps29
 go_wp2_with fail
 go_ret
 exact ⟨_, _, rfl, Sl.of_new w w.heap.size (Nat.le_refl _) 49 3 1 _ rfl (by simp [maxLen]), (Keeps.refl _ _).alloc _⟩
end Go.Proofs.YtdkogijdfgfpeaaGreatDoor
