/- The document's store: its paths; an entry. -/
import Derived.Test.YtdkogijdfgfpeaaGreatDoorChecked
import Derived.Test.YtdkogijdfgfpeaaGreatDoorQStore
import Derived.Test.YtdkogijdfgfpeaaGreatDoorGet
import Derived.Test.YtdkogijdfgfpeaaGreatDoorClosP
import Derived.Test.YtdkogijdfgfpeaaGreatDoorOwn
import Derived.Deep.RegionHeld3
namespace Go.Proofs.YtdkogijdfgfpeaaGreatDoor
open Go Go.RowKit
set_option linter.unusedVariables false

set_option maxHeartbeats 1600000 in
set_option maxRecDepth 100000 in
theorem rpaths_any {G : Nat → Prop} {r : Nat} {L : Ents} (w : World) (h : QAt w G r L) (hten : L.length ≤ 10) :
    Calls Tryz.prog 66 #[pv r] w fun e w' => ∃ v, e = .returned v ∧ Sl w' w.heap.size 9 1 v L.length (svs (L.map Ent.path)) ∧ Keeps Non w w' := by
  obtain ⟨vq, T, g1, g2⟩ := h.mem
  obtain ⟨qa, qc, rfl, hq1, hq2⟩ := g2.sl.shape
  have HQL := Lib.hid g2
  have HBR := Lib.hid g1
  have HTL : Hid (T.length = L.length) := g2.len
  have ht10 : T.length ≤ 10 := by have := g2.len; omega
  have cr := g1.cell 0
  simp only [List.getElem?_toArray, List.getElem?_cons_zero] at cr
  unfold maxLen at hq2
  clear h g1 g2
  unfold pv
  go_enter Tryz.func66, Tryz.ntmps66
  go_wp2_with fail
  go_loopg [3, 11] T.length (fun gk ov iv wr => ∃ k : Nat, gk = T.length - k ∧ k ≤ T.length ∧ iv = .int .i64 k ∧ Hid (Keeps Non w wr) ∧ Hid (Sl wr w.heap.size 9 1 ov k (svs ((L.map Ent.path).take k))))
  case atStart => exact ⟨0, rfl, Nat.zero_le _, rfl, Keeps.refl _ _, Sl.nil _ _ _ _⟩
  case round =>
    clear cr
    obtain ⟨k, rfl, hk, rfl, HK, HO⟩ := hrel
    obtain ⟨oa, oc, rfl, -, -⟩ := HO.out.shape
    by_cases hlt : k < T.length
    · have hQ := HQL.out.non HK.out
      obtain ⟨b, off, cp, hsh, -, -, -, hbl, hcc, -⟩ := hQ.rd.pos (by omega)
      cases hsh
      obtain ⟨x, hx⟩ : ∃ x, T[k]? = some x := ⟨_, List.getElem?_eq_getElem hlt⟩
      obtain ⟨e, he⟩ : ∃ e, L[k]? = some e := ⟨_, List.getElem?_eq_getElem (by rw [← HTL.out]; exact hlt)⟩
      obtain ⟨t1, t2, t3⟩ := trip_at T k x hx
      have hX := hQ.ents k e x he hx
      have c0 := (hcc (k * 3) (by omega)).trans t1
      have c1 := (hcc (k * 3 + 1) (by omega)).trans t2
      have c2 := (hcc (k * 3 + 2) (by omega)).trans t3
      obtain ⟨x0, x1, x2⟩ := x
      have hp0 := hX.path
      simp only at hp0 c0 c1 c2
      subst hp0
      obtain ⟨xa1, xc1, hx1, -, -⟩ := hX.tree.shape
      obtain ⟨xa2, xc2, hx2, -, -⟩ := hX.refs.shape
      simp only at hx1 hx2
      subst hx1 hx2
      rw [← Nat.add_assoc] at c1 c2
      unfold sv at c0
      have HE := Lib.hid he
      obtain ⟨i1, hj, hj0, hj1, hj2⟩ := info_parts infoStr
      have hsl := HO.out
      have hsz := HK.out.size
      clear hcc t1 t2 t3 hX hQ hx he
      go_wp2_with (at_builtin; refine wpList_append_own2 rfl _ _ 26 26 rfl 9 i1 _ 1 16 Tryz.underlying26 hj hj0 hj1 hj2 rfl w.heap.size _ _ _ rfl _ rfl 1 [.string ⟨e.path.toArray⟩] ?d11 ((hsl.alloc _).alloc _) ?d12 ?d13 ?d14 ?_)
      try (case d11 => simp; omega)
      case d12 =>
        have h1 := Sl.of_new (wr.alloc (.cells #[.string ⟨e.path.toArray⟩, .slice xa1 e.tree.length xc1, .slice xa2 e.refs.length xc2] 165)) 0 (Nat.zero_le _) 9 1 1 [.string ⟨e.path.toArray⟩] rfl (by simp [maxLen])
        have hz : (wr.alloc (.cells #[.string ⟨e.path.toArray⟩, .slice xa1 e.tree.length xc1, .slice xa2 e.refs.length xc2] 165)).heap.size = wr.heap.size + 1 := by simp
        rw [hz] at h1
        exact Src.ofSl Tryz.underlying26 h1 (by intro u hu; simp only [List.mem_cons, List.not_mem_nil, or_false] at hu; subst hu; rfl)
      case d13 => unfold maxLen; omega
      case d14 => omega
      intro ao cc w8 hs8 hk8 hkk8 hb8
      have HS8 : Hid (Sl w8 w.heap.size 9 1 (.slice ao (k + 1) cc) (k + 1) (svs ((L.map Ent.path).take (k + 1)))) := by
        show Sl _ _ _ _ _ _ _
        have : svs ((L.map Ent.path).take (k + 1)) = svs ((L.map Ent.path).take k) ++ [.string ⟨e.path.toArray⟩] := by
          rw [List.take_add_one, List.getElem?_map, HE.out]
          simp [svs, sv]
        rw [this]
        first | exact hs8 | simpa using hs8
      have HK8 : Hid (Keeps Non w w8) := ((HK.out.alloc _).alloc _).trans hkk8 fun j hj => .inr (hsl.own j hj).1
      clear hs8 hk8 hkk8 hb8 hsl hsz hj hj0 hj1 hj2 c0 c1 c2
      go_wp2_with fail
      go_roundg (T.length - (k + 1))
      case measure => omega
      case rel => exact ⟨k + 1, rfl, by omega, by go_num, HK8, HS8⟩
    · have hk2 : T.length = k := by omega
      subst hk2
      go_wp2_with fail
      go_ret
      refine ⟨.slice oa T.length oc, rfl, ?_, HK.out⟩
      have h1 := HO.out
      rw [List.take_of_length_le (by rw [List.length_map]; exact Nat.le_of_eq HTL.out.symm)] at h1
      rw [HTL.out] at h1 ⊢
      exact h1
/-- what Get tells -/
def QGetPost (w : World) (L : Ents) (name : List UInt8) (ed : Ending) (w' : World) : Prop :=
  (findE L name = none ∧ ed = .returned (.tuple #[.agg #[.slice none 0 0, .slice none 0 0, .string ⟨#[]⟩], .bool false]) ∧ Keeps Non w w') ∨
  ∃ e vt vr, findE L name = some e ∧ ed = .returned (.tuple #[.agg #[vt, vr, .string (sumOf (packP e.tree))], .bool true]) ∧ Rd w' 3 vt e.tree.length (nodeCells e.tree) ∧ Rd w' 1 vr e.refs.length (svs e.refs) ∧ Keeps Non w w'
theorem Keeps.ofNon {S : Nat → Prop} {w w' : World} (h : Keeps Non w w') : Keeps S w w' := h.mono fun _ _ h => h.elim
theorem Keeps.set3 {w w' : World} {rb : Nat} {a b c : Value} (h : Keeps Non w w') : Keeps (One rb) w (((w'.setCell ⟨rb, 0, none⟩ a).setCell ⟨rb, 1, none⟩ b).setCell ⟨rb, 2, none⟩ c) :=
  (((show Keeps (One rb) w w' from h.ofNon).setCell ⟨rb, 0, none⟩ a (.inl rfl)).setCell ⟨rb, 1, none⟩ b (.inl rfl)).setCell ⟨rb, 2, none⟩ c (.inl rfl)
set_option maxHeartbeats 3200000 in
set_option maxRecDepth 100000 in
theorem rget_any {G : Nat → Prop} {r : Nat} {L : Ents} (w : World) (h : QAt w G r L) (hok : StoreOk L) (hfl : ∀ e ∈ L, EntFit e) (name : ByteArray) :
    Calls Tryz.prog 101 #[pv r, .string name] w (QGetPost w L name.data.toList) := by
  have HQ := Lib.hid h
  have HOK := Lib.hid hok
  have HFL := Lib.hid hfl
  clear h hok hfl
  unfold pv
  go_enter Tryz.func101, Tryz.ntmps101
  go_upto_region 1 with (fail)
  have hk0 : Keeps Non w (w.alloc (.cells #[.slice none 0 0, .slice none 0 0, .string ⟨#[]⟩] 52)) := (Keeps.refl _ _).alloc _
  have hb0 := Blk.new w #[.slice none 0 0, .slice none 0 0, .string ⟨#[]⟩] 52
  obtain ⟨W, hW⟩ : ∃ W, W = w.alloc (.cells #[.slice none 0 0, .slice none 0 0, .string ⟨#[]⟩] 52) := ⟨_, rfl⟩
  obtain ⟨rb, hrb⟩ : ∃ rb, rb = w.heap.size := ⟨_, rfl⟩
  rw [← hW] at hk0 hb0
  rw [← hrb] at hb0
  rw [← hW, ← hrb]
  have HK0 := Lib.hid hk0
  have HB0 := Lib.hid hb0
  have HRB := Lib.hid hrb
  obtain ⟨vq, T, g1, g2⟩ := (HQ.out.non hk0).mem
  obtain ⟨qa, qc, rfl, hq1, hq2⟩ := g2.sl.shape
  have HQL := Lib.hid g2
  have HBR := Lib.hid g1
  have HTL : Hid (T.length = L.length) := g2.len
  have cr := g1.cell 0
  simp only [List.getElem?_toArray, List.getElem?_cons_zero] at cr
  unfold maxLen at hq2
  have HAT0 := HQL.out.at name
  clear hW hrb hk0 hb0 g1 g2
  rcases idxL_find L name.data.toList with ⟨hf, hi⟩ | ⟨i, e, hLi, hel, hep, hi, hil, hf⟩
  · have HFN := Lib.hid hf
    rw [hi] at HAT0
    have HAT := Lib.hid HAT0
    clear HAT0 hi hf
    go_wp2_with fail
    refine HAT.out.mono ?_
    rintro ed w9 ⟨rfl, hk9⟩
    have HK9 : Hid (Keeps Non W w9) := hk9
    have hb9 := HB0.out.keeps hk9 fun h => h
    have HB9 := Lib.hid hb9
    have r0 := hb9.cell 0
    have r1 := hb9.cell 1
    have r2 := hb9.cell 2
    have f0 := hb9.free 0
    have f1 := hb9.free 1
    have f2 := hb9.free 2
    simp only [List.getElem?_toArray, List.getElem?_cons_zero, List.getElem?_cons_succ] at r0 r1 r2
    clear hk9 cr HAT hb9
    go_wp2_with fail
    have hb3 := ((HB9.out.set 0 (.slice none 0 0)).set 1 (.slice none 0 0)).set 2 (.string ⟨#[]⟩)
    have hk3 : Keeps Non w (((w9.setCell ⟨rb, 0, none⟩ (.slice none 0 0)).setCell ⟨rb, 1, none⟩ (.slice none 0 0)).setCell ⟨rb, 2, none⟩ (.string ⟨#[]⟩)) := (((HK0.out.tn HK9.out).setCell _ _ (.inr (Nat.le_of_eq HRB.out.symm))).setCell _ _ (.inr (Nat.le_of_eq HRB.out.symm))).setCell _ _ (.inr (Nat.le_of_eq HRB.out.symm))
    generalize ((w9.setCell ⟨rb, 0, none⟩ (.slice none 0 0)).setCell ⟨rb, 1, none⟩ (.slice none 0 0)).setCell ⟨rb, 2, none⟩ (.string ⟨#[]⟩) = w3 at *
    have t0 := hb3.cell 0
    have t1 := hb3.cell 1
    have t2 := hb3.cell 2
    simp at t0 t1 t2
    refine bodyPost_ret (v := .tuple #[.agg #[.slice none 0 0, .slice none 0 0, .string ⟨#[]⟩], .bool false]) (by simp [results, Tryz.results101, go_sem, t0, t1, t2]) rfl ?_
    exact .inl ⟨HFN.out, rfl, hk3⟩
  · have hfe : findE L name.data.toList = some e := by
      cases hfe : findE L name.data.toList with
      | none => rw [hfe] at hf; cases hf
      | some e' =>
        obtain ⟨he', hep'⟩ := findE_some hfe
        rw [HOK.out.uniq he' hel (hep'.trans hep.symm)]
    have HFE := Lib.hid hfe
    rw [hi] at HAT0
    have HAT := Lib.hid HAT0
    have dn : decide ((i : Int) < 0) = false := decide_eq_false (by omega)
    have hiT : i < T.length := by rw [HTL.out]; exact hil
    obtain ⟨x, hx⟩ : ∃ x, T[i]? = some x := ⟨_, List.getElem?_eq_getElem hiT⟩
    have HX := Lib.hid (HQL.out.ents i e x hLi hx)
    have HXT := Lib.hid hx
    have HFE2 := Lib.hid (HFL.out e hel)
    have HG2 := Lib.hid (HOK.out.good e hel)
    clear HAT0 hi hf hfe hx hLi hep hel
    go_wp2_with fail
    refine HAT.out.mono ?_
    rintro ed w9 ⟨rfl, hk9⟩
    have HK9 : Hid (Keeps Non W w9) := hk9
    clear hk9 cr HAT
    have HBR9 := Lib.hid (HBR.out.keeps HK9.out fun h => h)
    have HQL9 := Lib.hid (HQL.out.non HK9.out)
    have HB9 := Lib.hid (HB0.out.keeps HK9.out fun h => h)
    obtain ⟨b, off, cp, hsh, -, -, -, hbl, hc, -⟩ := HQL9.out.rd.pos (by omega)
    cases hsh
    obtain ⟨t1, t2, t3⟩ := trip_at T i x HXT.out
    have hX9 := HX.out.keeps HK9.out fun _ _ h => h
    have c1 := (hc (i * 3 + 1) (by omega)).trans t2
    have c2 := (hc (i * 3 + 2) (by omega)).trans t3
    obtain ⟨x0, x1, x2⟩ := x
    simp only at c1 c2
    obtain ⟨xa1, xc1, hx1, -, -⟩ := hX9.tree.shape
    obtain ⟨xa2, xc2, hx2, -, -⟩ := hX9.refs.shape
    simp only at hx1 hx2
    subst hx1 hx2
    rw [← Nat.add_assoc] at c1 c2
    have hrlt : r < w.heap.size := HQ.out.lt r HQ.out.own
    have hblt : b < w.heap.size := HQ.out.lt b (HQL9.out.own b rfl).1
    have HCC : Hid (∀ wx, Keeps (One rb) w9 wx → wx.cell? ⟨r, 0, none⟩ = some (.slice (some ⟨b, off, none⟩) T.length qc) ∧ wx.cell? ⟨b, off + i * 3 + 1, none⟩ = some (.slice xa1 e.tree.length xc1) ∧ wx.cell? ⟨b, off + i * 3 + 2, none⟩ = some (.slice xa2 e.refs.length xc2)) := fun wx hk => by
      have hrb := HRB.out
      have h1 := (HBR9.out.keeps hk fun h => by have : r = rb := h; omega).cell 0
      simp only [List.getElem?_toArray, List.getElem?_cons_zero] at h1
      refine ⟨h1, ?_, ?_⟩
      · rw [World.cell?, hk.block b hbl fun h => by have : b = rb := h; omega]
        exact c1
      · rw [World.cell?, hk.block b hbl fun h => by have : b = rb := h; omega]
        exact c2
    obtain ⟨q0, q1, q2⟩ := HCC.out w9 (Keeps.refl _ _)
    have hbb := HB9.out
    have r0 := hbb.cell 0
    have r1 := hbb.cell 1
    have r2 := hbb.cell 2
    have f0 := hbb.free 0
    have f1 := hbb.free 1
    have f2 := hbb.free 2
    simp only [List.getElem?_toArray, List.getElem?_cons_zero, List.getElem?_cons_succ] at r0 r1 r2
    have HTR := Lib.hid hX9.tree
    have HRF := Lib.hid hX9.refs
    have HPK : Hid (∀ wx, Keeps Non w9 wx → Calls Tryz.prog 105 #[.slice xa1 e.tree.length xc1] wx fun ed w' => ed = .returned (.string ⟨(packP e.tree).toArray⟩) ∧ Keeps Non wx w') := fun wx hk => rPack_any _ e.tree wx (HTR.out.non hk) HFE2.out.nodes HG2.out.2.1 HFE2.out.pack
    have HSM : Hid (∀ wx, Calls Tryz.prog 107 #[.string ⟨(packP e.tree).toArray⟩] wx fun ed w' => ed = .returned (.string (sumOf (packP e.tree))) ∧ Keeps Non wx w') := fun wx => (rsum_any _ wx (by show (packP e.tree).toArray.size ≤ _; have := HFE2.out.pack; simp [maxLen]; omega))
    have p1 : (0 : Int) ≤ (i : Int) := by omega
    have p2 : (i : Int) < (T.length : Int) := by omega
    clear hc t1 t2 t3 hX9 hbb c1 c2
    go_upto_region 4 with (fail)
    have hc : Keeps Non w9 w9 := Keeps.refl _ _
    go_region_held3 (fun w' => w'.cell? ⟨r, 0, none⟩ = some (.slice (some ⟨b, off, none⟩) T.length qc) ∧ w'.cell? ⟨b, off + i * 3 + 1, none⟩ = some (.slice xa1 e.tree.length xc1) ∧ w'.cell? ⟨b, off + i * 3 + 2, none⟩ = some (.slice xa2 e.refs.length xc2)) (first | exact ⟨q0, q1, q2⟩ | exact HCC.out _ (Keeps.set3 hc) | exact HCC.out _ (Keeps.ofNon hc) | exact HCC.out _ (Keeps.ofNon hc).drew) (first
      | (go_at_call 105
         refine (HPK.out _ (by first | exact hc | exact hc.drew)).mono ?_
         rintro ed w' ⟨rfl, hk⟩
         replace hc := Keeps.tn hc (by first | exact hk | exact hk.un)
         clear hk
         obtain ⟨q0, q1, q2⟩ := HCC.out _ (Keeps.mono hc fun _ _ h => h.elim))
      | (go_at_call 107
         refine (HSM.out _).mono ?_
         rintro ed w' ⟨rfl, hk⟩
         replace hc := Keeps.tn hc (by first | exact hk | exact hk.un)
         clear hk
         obtain ⟨q0, q1, q2⟩ := HCC.out _ (Keeps.mono hc fun _ _ h => h.elim)
         have hbb := HB9.out.keeps hc fun h => h
         have r0 := hbb.cell 0
         have r1 := hbb.cell 1
         have r2 := hbb.cell 2
         have f0 := hbb.free 0
         have f1 := hbb.free 1
         have f2 := hbb.free 2
         simp only [List.getElem?_toArray, List.getElem?_cons_zero, List.getElem?_cons_succ] at r0 r1 r2))
    all_goals (
      have hb3 := (((HB9.out.keeps hc fun h => h).set 0 (.slice xa1 e.tree.length xc1)).set 1 (.slice xa2 e.refs.length xc2)).set 2 (.string (sumOf (packP e.tree)))
      have hk3 : Keeps Non w (((w'.setCell ⟨rb, 0, none⟩ (.slice xa1 e.tree.length xc1)).setCell ⟨rb, 1, none⟩ (.slice xa2 e.refs.length xc2)).setCell ⟨rb, 2, none⟩ (.string (sumOf (packP e.tree)))) := ((((HK0.out.tn HK9.out).tn hc).setCell _ _ (.inr (Nat.le_of_eq HRB.out.symm))).setCell _ _ (.inr (Nat.le_of_eq HRB.out.symm))).setCell _ _ (.inr (Nat.le_of_eq HRB.out.symm))
      have hset : Keeps (One rb) w9 (((w'.setCell ⟨rb, 0, none⟩ (.slice xa1 e.tree.length xc1)).setCell ⟨rb, 1, none⟩ (.slice xa2 e.refs.length xc2)).setCell ⟨rb, 2, none⟩ (.string (sumOf (packP e.tree)))) := Keeps.set3 hc
      have ht3 := HTR.out.keeps hset fun j hj h => by have h1 := HQ.out.lt j (HX.out.own1 j hj).1; have h2 := HRB.out; have : j = rb := h; omega
      have hr3 := HRF.out.keeps hset fun j hj h => by have h1 := HQ.out.lt j (HX.out.own2 j hj).1; have h2 := HRB.out; have : j = rb := h; omega
      generalize ((w'.setCell ⟨rb, 0, none⟩ (.slice xa1 e.tree.length xc1)).setCell ⟨rb, 1, none⟩ (.slice xa2 e.refs.length xc2)).setCell ⟨rb, 2, none⟩ (.string (sumOf (packP e.tree))) = w3 at *
      have t0 := hb3.cell 0
      have t1 := hb3.cell 1
      have t2 := hb3.cell 2
      simp at t0 t1 t2
      have HT3 := Lib.hid ht3
      have HR3 := Lib.hid hr3
      have HK3 := Lib.hid hk3
      clear hb3 hk3 hset ht3 hr3 hc q0 q1 q2 r0 r1 r2 f0 f1 f2
      go_wp2_with fail
      refine bodyPost_ret (v := .tuple #[.agg #[.slice xa1 e.tree.length xc1, .slice xa2 e.refs.length xc2, .string (sumOf (packP e.tree))], .bool true]) (by simp [results, Tryz.results101, go_sem, t0, t1, t2]) rfl ?_
      exact .inr ⟨e, _, _, HFE.out, rfl, HT3.out, HR3.out, HK3.out⟩)
end Go.Proofs.YtdkogijdfgfpeaaGreatDoor
