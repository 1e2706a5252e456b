/- narkeep.Closed: the walk. -/
import Derived.Test.YtohbjbicmgnblaaDoorChecked
import Derived.Test.YtohbjbicmgnblaaDoorClosedP
import Derived.Test.YtohbjbicmgnblaaDoorStoredW
namespace Go.Proofs.YtohbjbicmgnblaaDoor
open Go Go.RowKit
set_option linter.unusedVariables false

theorem none_not (n : Nat) (L : Ents) (RR : List (List (List UInt8))) (h : Filling n RR L) : findE L [110, 111, 110, 101] = none := findE_none.2 fun e he hep => by
  obtain ⟨i, hi, hip, -⟩ := h.ents e he
  rw [hip] at hep
  have := congrArg List.length hep
  simp [nm] at this
theorem Rd.takeS {w : World} {oa : Option Addr} {ol oc k : Nat} {out : List (List UInt8)} (h : Rd w 1 (.slice oa ol oc) ol (svs out)) (hk : k ≤ ol) : Rd w 1 (.slice oa k oc) (out.take k).length (svs (out.take k)) := by
  have hl : out.length = ol := by have := h.len; simpa [svs] using this
  have htl : (out.take k).length = k := by rw [List.length_take]; omega
  have hsv : svs (out.take k) = (svs out).take k := by simp [svs, List.map_take]
  rw [htl, hsv]
  obtain ⟨h1, ⟨a, cap, h2, h3, h4⟩ | ⟨b, off, cap, h2, h3, h4, h5, h6⟩⟩ := h
  · cases h2
    have hk0 : k = 0 := by omega
    subst hk0
    exact ⟨by simp, .inl ⟨_, _, rfl, rfl, h4⟩⟩
  · cases h2
    refine ⟨by rw [List.length_take]; omega, .inr ⟨_, _, _, rfl, by omega, h4, h5, fun j hj => ?_⟩⟩
    rw [h6 j (by omega), List.getElem?_take, if_pos (by omega)]
theorem Rd.dropS {w : World} {b off ol oc k : Nat} {out : List (List UInt8)} (h : Rd w 1 (.slice (some ⟨b, off, none⟩) ol oc) ol (svs out)) (hk : k ≤ ol) (h0 : 0 < ol) : Rd w 1 (.slice (some ⟨b, off + k, none⟩) (ol - k) (oc - k)) (out.drop k).length (svs (out.drop k)) := by
  have hl : out.length = ol := by have := h.len; simpa [svs] using this
  have htl : (out.drop k).length = ol - k := by rw [List.length_drop]; omega
  have hsv : svs (out.drop k) = (svs out).drop k := by simp [svs, List.map_drop]
  rw [htl, hsv]
  obtain ⟨b', off', cap, h2, -, h3, h4, h5, h6, -⟩ := h.pos h0
  cases h2
  refine ⟨by rw [List.length_drop]; simp [svs]; omega, .inr ⟨_, _, _, rfl, by omega, by omega, h5, fun j hj => ?_⟩⟩
  have := h6 (k + j) (by omega)
  rw [Nat.add_assoc, this, List.getElem?_drop]
theorem idxL_last {out a : List (List UInt8)} {p : List UInt8} (h : out = a ++ [p]) (hn : out.Nodup) : idxL out p = (a.length : Int) := by
  obtain ⟨i, h1, h2, h3⟩ := idxL_at (l := out) (s := p) (by rw [h]; simp)
  have := nodup_at hn h3 (show out[a.length]? = some p by rw [h]; simp)
  rw [h1, this]
set_option maxHeartbeats 4000000 in
set_option maxRecDepth 100000 in
theorem closed_walk (s : ByteArray) (z : Int) (W : World) (htab : Tabs W) (hs : s.size ≤ 140737488355328) (hz1 : -9223372036854775808 ≤ z) (hz2 : z ≤ 9223372036854775807) :
    Calls Tryd.prog 4 #[.string s, .int .i64 z] W fun e w' => e = .returned (.bool true) ∧ Keeps Non W w' := by
  have HT := Lib.hid htab
  clear htab
  by_cases h16 : 16384 < s.size
  · have d1 : decide ((16384 : Int) < (s.size : Int)) = true := by simp; omega
    go_enter Tryd.func4, Tryd.ntmps4
    go_wp2_with fail
    go_ret
    exact ⟨rfl, Keeps.refl _ _⟩
  · have d1 : decide ((16384 : Int) < (s.size : Int)) = false := by simp; omega
    go_enter Tryd.func4, Tryd.ntmps4
    go_wp2_with fail
    refine (stored_any _ W (by rw [ByteArray.size_append]; show 2 + _ ≤ _; omega) (by rw [ByteArray.size_append]; show 2 ≤ 2 + _; omega) HT.out).mono ?_
    rintro e w1 ⟨n, xb, st, F, L, RR, vn, vr, xs, rfl, h0, hF, hS⟩
    have HF := Lib.hid hF
    have HS := Lib.hid hS
    have hnl := namesOf_len n
    have hn10 := hF.ten
    obtain ⟨na, nc, rfl, hn1, hn2⟩ := hS.names.shape
    rw [hnl] at HS hn1
    have hrr := hF.rr
    obtain ⟨ra, rc, rfl, hr1, hr2⟩ := hS.outer.shape
    have HPK := Lib.hid (pick_any z n w1 hz1 hz2 (by omega) (by omega))
    obtain ⟨k, hk1, hk2⟩ := pick_range z n (by omega)
    rw [hk1] at HPK
    have hkn : k < n := by omega
    have hnm := HS.out.names
    rw [hnl] at hnm
    obtain ⟨b', o', c', hsh, -, -, -, hltb, hcc, -⟩ := hnm.pos (by omega)
    cases hsh
    have d0 : w1.cell? ⟨b', o' + k, none⟩ = some (sv (nm (fb k))) := (hcc k (by omega)).trans (by simp [svs, namesOf_at hkn])
    unfold sv nm at d0
    have cx := HS.out.box.cell 0
    simp only [List.getElem?_toArray, List.getElem?_cons_zero] at cx
    unfold pv at cx
    clear hF hS hnm hcc hk1 hz1 hz2
    unfold pv
    go_wp2_with fail
    refine HPK.out.mono ?_
    rintro e w2 ⟨rfl, rfl⟩
    clear HPK
    have e1 : (0 : Int) ≤ (k : Int) := by omega
    have e2 : (k : Int) < (n : Int) := by omega
    go_wp2_with fail
    have hks : Keeps Non w1 (w1.alloc (.cells #[.string ⟨#[fb k, 45, 49]⟩, .string ⟨#[fb k, 45, 49]⟩] 9)) := (Keeps.refl _ _).alloc _
    refine (closure_any _ (HS.out.store.non hks) [nm (fb k), nm (fb k)] _ (Sl.of_new w1 0 (Nat.zero_le _) 9 1 2 [.string ⟨#[fb k, 45, 49]⟩, .string ⟨#[fb k, 45, 49]⟩] rfl (by simp [maxLen])).rd (by simp) (fun r hr => by
      have : r = nm (fb k) := by simpa using hr
      rw [this]
      show 3 ≤ _
      omega)).mono ?_
    rintro e w3 (⟨⟨r, hr, hrn⟩, -, -⟩ | ⟨-, K, v, hRO, rfl, hso, hk3⟩)
    · exfalso
      have : r = nm (fb k) := by simpa using hr
      rw [this] at hrn
      obtain ⟨e, he, hep, -⟩ := HF.out.back k hkn
      exact findE_none.1 hrn e he hep
    have hC := closed_ok HF.out HS.out.store.ok hRO
    obtain ⟨out, hout⟩ : ∃ out, out = closL L K := ⟨_, rfl⟩
    rw [← hout] at hC hso
    obtain ⟨oa, oc, rfl, ho1, ho2⟩ := hso.shape
    obtain ⟨a, ha⟩ := hC.last
    obtain ⟨al, hal⟩ : ∃ al, al = a.length := ⟨_, rfl⟩
    obtain ⟨ol, hol⟩ : ∃ ol, ol = out.length := ⟨_, rfl⟩
    have hal1 : ol = al + 1 := by rw [hol, ha, hal]; simp
    have hon : ol ≤ 10 := by
      have h1 := nodup_len out (namesOf n) hC.once fun p hp => by
        obtain ⟨i, hi, rfl⟩ := hC.mem p hp
        exact namesOf_mem.2 ⟨i, hi, rfl⟩
      rw [namesOf_len] at h1
      omega
    have hlast := idxL_last ha hC.once
    rw [← hal] at hlast
    have HC := Lib.hid hC
    have hsr := hso.rd
    rw [← hol] at hsr ho1
    rw [← hol]
    have HSO := Lib.hid hsr
    have hs3 := HS.out.non (hks.trans hk3 fun _ h => h.elim)
    have HS3 := Lib.hid hs3
    have HNAM : Hid (Rd w3 1 (.slice (some ⟨b', o', none⟩) n nc) n (svs (namesOf n))) := by
      have := hs3.names.rd
      rw [hnl] at this
      exact this
    have HREF : Hid (Rd w3 1 (.slice ra n rc) n xs) := by
      have := hs3.outer.rd
      rw [hrr] at this
      exact this
    have HITM : Hid (∀ (i : Nat) (v : Value) (r : List (List UInt8)), xs[i]? = some v → RR[i]? = some r → Rd w3 1 v r.length (svs r)) := fun i v r hx hr => (hs3.items i v r hx hr).sl.rd
    have HATS : Hid (∀ (l : List (List UInt8)) (v : Value) (p : List UInt8), Rd w3 1 v l.length (svs l) → Calls Tryd.prog 13 #[v, .string ⟨p.toArray⟩] w3 fun e w' => e = .returned (.int .i64 (idxL l p)) ∧ w3 = w') := fun l v p h => at_any l v ⟨p.toArray⟩ w3 h
    have HOL := Lib.hid hol
    have HRR := Lib.hid hrr
    have hrn : n ≤ rc := by omega
    have e3 : (ol : Int) - 1 = (al : Int) := by omega
    have h0l : 0 < ol := by omega
    have HAT : Hid (Calls Tryd.prog 13 #[.slice oa ol oc, .string ⟨#[fb k, 45, 49]⟩] w3 fun e w' => e = .returned (.int .i64 (al : Int)) ∧ w3 = w') := by
      have := HATS.out out (.slice oa ol oc) (nm (fb k)) (by rw [← HOL.out]; exact HSO.out)
      rw [hlast] at this
      exact this
    have cx := hs3.box.cell 0
    simp only [List.getElem?_toArray, List.getElem?_cons_zero] at cx
    unfold pv at cx
    clear hks hRO hout hso hk3 hC ha hal hal1 hol hrr HS d0 e1 e2 hltb hs3 hlast hnl hr1 hn1
    go_wp2_with fail
    refine HAT.out.mono ?_
    rintro e w4 ⟨rfl, rfl⟩
    clear HAT
    obtain ⟨root, hroot⟩ : ∃ root, root = nm (fb k) := ⟨_, rfl⟩
    have hrt : (⟨#[fb k, 45, 49]⟩ : ByteArray) = ⟨root.toArray⟩ := by rw [hroot]; rfl
    have HRT : Hid (root = nm (fb k)) := hroot
    rw [hrt]
    rw [← hroot] at HC
    clear hrt hroot
    obtain ⟨ob, oo, oc', hsh, -, -, -, hltb, hcc, -⟩ := HSO.out.pos h0l
    cases hsh
    have HCC : Hid (∀ (j : Nat) (h : j < ol), w3.cell? ⟨ob, oo + j, none⟩ = some (sv (out[j]'(by rw [← HOL.out]; exact h)))) := fun j h => (hcc j (by omega)).trans (svs_get out j _)
    clear hcc
    go_wp2_with fail
    go_loopg [66] ol (fun gk iv wr => ∃ j : Nat, gk = ol - j ∧ j ≤ ol ∧ iv = .int .i64 j ∧ w3 = wr)
    case atStart => exact ⟨0, rfl, by omega, rfl, rfl⟩
    case round =>
      obtain ⟨j, rfl, hj, rfl, rfl⟩ := hrel
      by_cases hlt : j < ol
      · have d0 := HCC.out j hlt
        have hlt' : j < out.length := by rw [← HOL.out]; exact hlt
        have HX : Hid (out[j]? = some out[j]) := List.getElem?_eq_getElem hlt'
        obtain ⟨i, hi, hip⟩ := HC.out.mem out[j] (List.getElem_mem _)
        generalize out[j] = p at *
        unfold sv at d0
        have hidx : idxL (namesOf n) p = (i : Int) := by
          obtain ⟨q, hq1, hq2, hq3⟩ := idxL_at (l := namesOf n) (s := p) (namesOf_mem.2 ⟨i, hi, hip⟩)
          rw [namesOf_len] at hq2
          rw [namesOf_at hq2, Option.some.injEq, hip] at hq3
          have := fb_inj (by omega) (by omega) (nm_inj hq3)
          rw [hq1, this]
        have hnin : idxL (out.take j) p = -1 := idxL_none fun hm => by
          obtain ⟨q, hq, hqp⟩ := List.getElem_of_mem hm
          rw [List.length_take] at hq
          rw [List.getElem_take] at hqp
          have := nodup_at HC.out.once HX.out (List.getElem?_eq_some_iff.2 ⟨by omega, hqp⟩)
          omega
        have HPRE := Lib.hid (HSO.out.takeS (k := j) (by omega))
        have HA1 := HATS.out (namesOf n) (.slice (some ⟨b', o', none⟩) n nc) p (by rw [namesOf_len]; exact HNAM.out)
        have HA2 := HATS.out (out.take j) (.slice (some ⟨ob, oo, none⟩) j oc) p HPRE.out
        rw [hidx] at HA1
        rw [hnin] at HA2
        replace HA1 := Lib.hid HA1
        replace HA2 := Lib.hid HA2
        obtain ⟨rs, hrs⟩ : ∃ rs, RR[i]? = some rs := ⟨_, List.getElem?_eq_getElem (by rw [HRR.out]; exact hi)⟩
        have hxl : xs.length = n := by have := HREF.out.len; omega
        obtain ⟨v, hv⟩ : ∃ v, xs[i]? = some v := ⟨_, List.getElem?_eq_getElem (by omega)⟩
        have hRV := HITM.out i v rs hv hrs
        obtain ⟨rb, ro, rc', hsh, -, -, -, hltr, hrc, -⟩ := HREF.out.pos h0
        cases hsh
        have dr := (hrc i (by omega)).trans hv
        obtain ⟨va, vc, rfl, hvc1, hvc2⟩ := hRV.shape
        obtain ⟨rl, hrl⟩ : ∃ rl, rl = rs.length := ⟨_, rfl⟩
        rw [← hrl] at dr hRV
        have HRL := Lib.hid hrl
        have HRV := Lib.hid hRV
        have HIP := Lib.hid hip
        have HRS := Lib.hid hrs
        have hrl1 : rl ≤ maxLen := by omega
        unfold maxLen at hrl1
        have HA3 : Hid (∀ r ∈ rs, r ≠ p → ∃ m : Nat, Calls Tryd.prog 13 #[.slice (some ⟨ob, oo, none⟩) j oc, .string ⟨r.toArray⟩] w3 fun e w' => e = .returned (.int .i64 (m : Int)) ∧ w3 = w') := fun r hr hne => by
          have hin : r ∈ out.take j := by
            rcases HC.out.ahead j p HX.out i rs hi hip hrs r hr with h | h
            · exact absurd h hne
            · exact h
          obtain ⟨m, hm, -, -⟩ := idxL_at hin
          have := HATS.out (out.take j) (.slice (some ⟨ob, oo, none⟩) j oc) r HPRE.out
          rw [hm] at this
          exact ⟨m, this⟩
        have f1 : (0 : Int) ≤ (i : Int) := by omega
        have f2 : (i : Int) < (n : Int) := by omega
        have f3 : (0 : Int) ≤ (j : Int) := by omega
        have f4 : (j : Int) ≤ (ol : Int) := by omega
        have f5 : (j : Int) ≤ (oc : Int) := by omega
        clear hrc hv hRV hip hrs hrl hidx hnin hvc1
        go_wp2_with fail
        refine HA1.out.mono ?_
        rintro e w4 ⟨rfl, rfl⟩
        have d2 : decide ((i : Int) < 0) = false := decide_eq_false (by omega)
        go_wp2_with fail
        refine HA2.out.mono ?_
        rintro e w4 ⟨rfl, rfl⟩
        go_wp2_with fail
        clear HA1 HA2 d0 dr f1 f2
        go_loopg [89] rl (fun gk iv wr => ∃ t : Nat, gk = rl - t ∧ t ≤ rl ∧ iv = .int .i64 t ∧ w3 = wr)
        case atStart => exact ⟨0, rfl, by omega, rfl, rfl⟩
        case round =>
          obtain ⟨t, rfl, ht, rfl, rfl⟩ := hrel
          by_cases htl : t < rl
          · obtain ⟨qb, qo, qc, hsh, -, -, -, hltq, hqc, -⟩ := HRV.out.pos (by omega)
            cases hsh
            have htl' : t < rs.length := by rw [← HRL.out]; exact htl
            have d0 := (hqc t (by omega)).trans (svs_get rs t htl')
            have hrm : rs[t] ∈ rs := List.getElem_mem _
            clear hqc
            generalize rs[t] = r at *
            unfold sv at d0
            by_cases hrp : r = p
            · have hb0 : (!r == p) = false := by rw [hrp]; simp
              clear hrp
              go_wp2_with fail
              go_roundg (rl - (t + 1))
              case measure => omega
              case rel => exact ⟨t + 1, rfl, by omega, by go_num, rfl⟩
            · have hb0 : (!r == p) = true := by simpa using hrp
              obtain ⟨m, hm⟩ := HA3.out r hrm hrp
              have HM := Lib.hid hm
              have d3 : decide ((m : Int) < 0) = false := decide_eq_false (by omega)
              clear hm hrp hrm
              go_wp2_with fail
              refine HM.out.mono ?_
              rintro e w4 ⟨rfl, rfl⟩
              go_wp2_with fail
              go_roundg (rl - (t + 1))
              case measure => omega
              case rel => exact ⟨t + 1, rfl, by omega, by go_num, rfl⟩
          · have hk2 : rl = t := by omega
            subst hk2
            clear HA3 HPRE f4 f5
            have g1 : (0 : Int) ≤ (j : Int) + 1 := by omega
            have g2 : (j : Int) + 1 ≤ (ol : Int) := by omega
            have g3 : IntKind.i64.wrap ((j : Int) + 1) = (j : Int) + 1 := IntWalk.i64_in _ (by unfold maxLen at *; omega)
            have g4 : ((j : Int) + 1).toNat = j + 1 := by omega
            have g5 : (ol : Int) ≤ (oc : Int) := by omega
            go_upto_region 23 with (fail)
            obtain ⟨dl, hdl⟩ : ∃ dl, dl = ol - (j + 1) := ⟨_, rfl⟩
            go_cut [111, 112, 113] (fun v lv iv wx => lv = .int .i64 dl ∧ iv = .int .i64 0 ∧ w3 = wx ∧ ∃ a c, v = .slice a dl c ∧ Hid (Rd w3 1 (.slice a dl c) dl (svs (out.drop (j + 1)))))
            case first =>
              have hdl2 : ((ol - (j + 1) : Nat) : Int) = (dl : Int) := by omega
              by_cases hoc : oc = j + 1
              · have hd0 : ol - (j + 1) = 0 := by omega
                have hdz : dl = 0 := by omega
                have hnil : out.drop (j + 1) = [] := List.drop_eq_nil_of_le (by rw [← HOL.out]; omega)
                have HRD0 : Hid (∀ a : Option Addr, Rd w3 1 (.slice a 0 0) 0 (svs (out.drop (j + 1)))) := fun a => by
                  rw [hnil]
                  exact ⟨rfl, .inl ⟨a, 0, rfl, rfl, by simp⟩⟩
                have HDZ := Lib.hid hdz
                have hoc2 : oc - (j + 1) = 0 := by omega
                clear hdl hdz
                go_wp2_with fail
                go_meet
                refine ⟨by first | (rw [HDZ.out]; done) | (rw [HDZ.out]; first | rfl | simp [hd0]), rfl, rfl, _, _, by first | (rw [HDZ.out]; done) | (rw [HDZ.out]; first | rfl | simp [hd0]), ?_⟩
                rw [HDZ.out]
                exact HRD0.out _
              · have HRD1 : Hid (Rd w3 1 (.slice (some ⟨ob, oo + (j + 1), none⟩) (ol - (j + 1)) (oc - (j + 1))) (out.drop (j + 1)).length (svs (out.drop (j + 1)))) := HSO.out.dropS (by omega) h0l
                have HDL := Lib.hid hdl
                clear hdl
                go_wp2_with fail
                go_meet
                refine ⟨by rw [HDL.out], rfl, rfl, _, _, by rw [HDL.out], ?_⟩
                have h1 := HRD1.out
                have h2 : (out.drop (j + 1)).length = dl := by rw [List.length_drop, ← HOL.out, HDL.out]
                rw [h2, ← HDL.out] at h1
                exact h1
            case rest =>
              obtain ⟨rfl, rfl, rfl, ua, uc, rfl, HUD⟩ := hcut
              have HDLEN : Hid ((out.drop (j + 1)).length = dl) := by show _ = _; rw [List.length_drop, ← HOL.out, hdl]
              have hdl10 : dl ≤ 10 := by omega
              have HDL : Hid (dl = ol - (j + 1)) := hdl
              clear hdl
              go_wp2_with fail
              go_loopg [17, 113] dl (fun gk uv iv wr => ∃ (t : Nat) (u : Bool), gk = dl - t ∧ t ≤ dl ∧ uv = .bool u ∧ iv = .int .i64 t ∧ w3 = wr ∧ Hid (u = false → p ≠ root ∧ ∀ q ∈ (out.drop (j + 1)).take t, ∀ i2 r2, i2 < n → q = nm (fb i2) → RR[i2]? = some r2 → p ∉ r2))
              case atStart => exact ⟨0, p == root, rfl, by omega, rfl, rfl, rfl, fun h => ⟨by simpa using h, by simp⟩⟩
              case round =>
                obtain ⟨t, u, rfl, ht2, rfl, rfl, rfl, HU⟩ := hrel
                by_cases htl2 : t < dl
                · obtain ⟨eb, eo, ec, hsh, -, -, -, hlte, hec, -⟩ := HUD.out.pos (by omega)
                  cases hsh
                  have htD : t < (out.drop (j + 1)).length := by rw [HDLEN.out]; exact htl2
                  have d0 := (hec t (by omega)).trans (svs_get (out.drop (j + 1)) t htD)
                  have HQ : Hid ((out.drop (j + 1))[t]? = some (out.drop (j + 1))[t]) := List.getElem?_eq_getElem htD
                  have hqm : (out.drop (j + 1))[t] ∈ out := List.mem_of_mem_drop (List.getElem_mem htD)
                  clear hec
                  generalize (out.drop (j + 1))[t] = q at *
                  unfold sv at d0
                  cases u with
                  | true =>
                    go_wp2_with fail
                    go_roundg (dl - (t + 1))
                    case measure => omega
                    case rel => exact ⟨t + 1, true, rfl, by omega, rfl, by go_num, rfl, fun h => by cases h⟩
                  | false =>
                    obtain ⟨i2, hi2, hip2⟩ := HC.out.mem q hqm
                    have hidx2 : idxL (namesOf n) q = (i2 : Int) := by
                      obtain ⟨x, hx1, hx2, hx3⟩ := idxL_at (l := namesOf n) (s := q) (namesOf_mem.2 ⟨i2, hi2, hip2⟩)
                      rw [namesOf_len] at hx2
                      rw [namesOf_at hx2, Option.some.injEq, hip2] at hx3
                      have := fb_inj (by omega) (by omega) (nm_inj hx3)
                      rw [hx1, this]
                    have HB1 := HATS.out (namesOf n) (.slice (some ⟨b', o', none⟩) n nc) q (by rw [namesOf_len]; exact HNAM.out)
                    rw [hidx2] at HB1
                    replace HB1 := Lib.hid HB1
                    obtain ⟨r2, hr2⟩ : ∃ r2, RR[i2]? = some r2 := ⟨_, List.getElem?_eq_getElem (by rw [HRR.out]; exact hi2)⟩
                    obtain ⟨v2, hv2⟩ : ∃ v2, xs[i2]? = some v2 := ⟨_, List.getElem?_eq_getElem (by omega)⟩
                    have hRV2 := HITM.out i2 v2 r2 hv2 hr2
                    obtain ⟨rb2, ro2, rc2, hsh2, -, -, -, hltr2, hrc2, -⟩ := HREF.out.pos h0
                    cases hsh2
                    have dr2 := (hrc2 i2 (by omega)).trans hv2
                    have HB2 := HATS.out r2 v2 p hRV2
                    have HQI : Hid (∀ i3 r3, i3 < n → q = nm (fb i3) → RR[i3]? = some r3 → r3 = r2) := fun i3 r3 h3 hq3 hr3 => by
                      have := fb_inj (by omega) (by omega) (nm_inj (hq3.symm.trans hip2))
                      subst this
                      rw [hr2, Option.some.injEq] at hr3
                      exact hr3.symm
                    have f1 : (0 : Int) ≤ (i2 : Int) := by omega
                    have f2 : (i2 : Int) < (n : Int) := by omega
                    obtain ⟨va2, vc2, rfl, -, -⟩ := hRV2.shape
                    by_cases hin : p ∈ r2
                    · obtain ⟨m, hm, -, -⟩ := idxL_at hin
                      rw [hm] at HB2
                      replace HB2 := Lib.hid HB2
                      have d3 : decide (0 ≤ (m : Int)) = true := decide_eq_true (by omega)
                      clear hRV2 hrc2 hv2 hip2 hidx2 hm hin hqm hr2
                      go_wp2_with fail
                      refine HB1.out.mono ?_
                      rintro e w4 ⟨rfl, rfl⟩
                      go_wp2_with fail
                      refine HB2.out.mono ?_
                      rintro e w4 ⟨rfl, rfl⟩
                      go_wp2_with fail
                      go_roundg (dl - (t + 1))
                      case measure => omega
                      case rel => exact ⟨t + 1, true, rfl, by omega, rfl, by go_num, rfl, fun h => by cases h⟩
                    · rw [idxL_none hin] at HB2
                      replace HB2 := Lib.hid HB2
                      have HIN : Hid (p ∉ r2) := hin
                      clear hRV2 hrc2 hv2 hip2 hidx2 hin hqm hr2
                      go_wp2_with fail
                      refine HB1.out.mono ?_
                      rintro e w4 ⟨rfl, rfl⟩
                      go_wp2_with fail
                      refine HB2.out.mono ?_
                      rintro e w4 ⟨rfl, rfl⟩
                      go_wp2_with fail
                      go_roundg (dl - (t + 1))
                      case measure => omega
                      case rel =>
                        refine ⟨t + 1, false, rfl, by omega, rfl, by go_num, rfl, fun h => ⟨(HU.out (by trivial)).1, fun y hy i3 r3 h3 hq3 hr3 => ?_⟩⟩
                        rw [List.take_add_one, HQ.out, List.mem_append] at hy
                        rcases hy with hy | hy
                        · exact (HU.out (by trivial)).2 y hy i3 r3 h3 hq3 hr3
                        · simp only [Option.toList_some, List.mem_singleton] at hy
                          subst hy
                          rw [HQI.out i3 r3 h3 hq3 hr3]
                          exact HIN.out
                · have hk3 : dl = t := by omega
                  subst hk3
                  have hu : u = true := by
                    cases u with
                    | true => rfl
                    | false =>
                      exfalso
                      obtain ⟨h1, h2⟩ := HU.out rfl
                      obtain ⟨y, hy, i3, r3, h3, hq3, hr3, hp3⟩ := HC.out.used j p HX.out h1
                      refine h2 y ?_ i3 r3 h3 hq3 hr3 hp3
                      rw [List.take_of_length_le (by rw [HDLEN.out]; exact Nat.le_refl _)]
                      exact hy
                  subst hu
                  clear HU
                  go_wp2_with fail
                  go_roundg (ol - (j + 1))
                  case measure => omega
                  case rel => exact ⟨j + 1, rfl, by omega, by go_num, rfl⟩
      · have hk2 : ol = j := by omega
        subst hk2
        go_wp2_with fail
        refine (closure_any _ (HS3.out.store.non ((Keeps.refl _ _).alloc _)) [root, [110, 111, 110, 101]] _ (Sl.of_new w3 0 (Nat.zero_le _) 9 1 2 [.string ⟨root.toArray⟩, .string ⟨#[110, 111, 110, 101]⟩] rfl (by simp [maxLen])).rd (by simp) (fun r hr => by
          rcases List.mem_cons.1 hr with h | hr
          · rw [h, HRT.out]
            show 3 ≤ _
            omega
          · have : r = [110, 111, 110, 101] := by simpa using hr
            rw [this]
            show 4 ≤ _
            omega)).mono ?_
        rintro e w5 (⟨-, rfl, hk5⟩ | ⟨hall, -⟩)
        · have HK5 : Hid (Keeps Non W w5) := (HS3.out.keeps.alloc _).trans hk5 fun _ h => h.elim
          clear hk5
          go_wp2_with fail
          go_ret
          exact ⟨rfl, HK5.out⟩
        · exfalso
          have := hall [110, 111, 110, 101] (by simp)
          rw [none_not n L RR HF.out] at this
          cases this
end Go.Proofs.YtohbjbicmgnblaaDoor
