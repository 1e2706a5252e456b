/- (*narlaw.World).looks: what the caller has still reads as it was written. -/
import Derived.Test.YtdkogijdfgfpeaaGreatDoorChecked
import Derived.Test.YtdkogijdfgfpeaaGreatDoorLState
import Derived.Test.YtdkogijdfgfpeaaGreatDoorGet
import Derived.Test.YtdkogijdfgfpeaaGreatDoorStep
namespace Go.Proofs.YtdkogijdfgfpeaaGreatDoor
open Go Go.RowKit
set_option linter.unusedVariables false

set_option maxHeartbeats 3200000 in
set_option maxRecDepth 100000 in
theorem looks_any (X : List Part) (D : LD) (w : World) (h : Parts (X ++ lawParts D) w) (hnl : D.ls.length ≤ 1000000) (hnt : D.ts.length ≤ 1000000) :
    Calls Tryz.prog 33 #[pv D.b] w fun e w' => e = .returned (.bool true) ∧ Keeps Non w w' := by
  have HP := Lib.hid h
  have hb := law_blk h
  obtain ⟨la, lc, hlv, hc3, hc4⟩ := (law_ls h).shape
  obtain ⟨ta, tc, htv, hc5, hc6⟩ := (law_ts h).shape
  have c2 : w.cell? ⟨D.b, 2, none⟩ = some (.slice la D.ls.length lc) := by rw [← hlv]; exact hb.cell 2
  unfold maxLen at hc4 hc6
  have HLV := Lib.hid hlv
  have HTV := Lib.hid htv
  have HB := Lib.hid hb
  clear h hb hlv htv
  unfold pv
  go_enter Tryz.func33, Tryz.ntmps33
  go_wp2_with fail
  go_loopg [16] D.ls.length (fun gk iv wr => ∃ k : Nat, gk = D.ls.length - k ∧ k ≤ D.ls.length ∧ iv = .int .i64 k ∧ Hid (Keeps Non w wr))
  case atStart => exact ⟨0, rfl, Nat.zero_le _, rfl, Keeps.refl _ _⟩
  case round =>
    obtain ⟨k, rfl, hk, rfl, HK⟩ := hrel
    by_cases hlt : k < D.ls.length
    · have hls := law_ls (HP.out.non HK.out)
      rw [HLV.out] at hls
      obtain ⟨b', o', c', hsh, -, -, -, hltb, hcc, hfz⟩ := hls.pos (by omega)
      cases hsh
      obtain ⟨⟨v, m⟩, hx⟩ : ∃ x, D.ls[k]? = some x := ⟨_, List.getElem?_eq_getElem hlt⟩
      have d0 : wr.cell? ⟨b', o' + k, none⟩ = some v := (hcc k (by omega)).trans (by simp [hx])
      have hsl : Sl w 0 TStr 1 v m (List.replicate m (sv (markL k))) := HP.out.all (lsPart k (v, m)) (List.mem_append_right _ (List.mem_append_right _ (List.mem_append_right _ (List.mem_append_left _ (by have := lsParts_mem D.ls 0 k _ hx; rwa [Nat.zero_add] at this)))))
      obtain ⟨va, vc, rfl, hm1, hm2⟩ := hsl.shape
      unfold maxLen at hm2
      have HSL := Lib.hid hsl
      clear hcc hfz hx hsl hls
      go_wp2_with fail
      go_loopg [23] m (fun gk iv wq => ∃ j : Nat, gk = m - j ∧ j ≤ m ∧ iv = .int .i64 j ∧ Hid (Keeps Non w wq))
      case atStart => exact ⟨0, rfl, Nat.zero_le _, rfl, HK⟩
      case round =>
        clear HK
        obtain ⟨j, rfl, hj, rfl, HK⟩ := hrel
        by_cases hlj : j < m
        · have hsl : Sl wr 0 TStr 1 (.slice va m vc) m (List.replicate m (sv (markL k))) := HSL.out.keep fun b c _ _ hbk => hbk.keeps HK.out fun h => h
          obtain ⟨bb, oo, cc', hsh, -, -, -, hltb2, hcc, hfz⟩ := hsl.pos (by omega)
          cases hsh
          have e0 : wr.cell? ⟨bb, oo + j, none⟩ = some (sv (markL k)) := (hcc j (by omega)).trans (by simp [hlj])
          unfold sv at e0
          clear hcc hfz hsl
          go_wp2_with fail
          refine (mark_any k wr (by omega)).mono ?_
          rintro e w2 ⟨rfl, hk2⟩
          have HK2 := Lib.hid (HK.out.trans hk2 fun _ h => h.elim)
          clear hk2
          unfold sv
          go_wp2_with fail
          go_roundg (m - (j + 1))
          case measure => omega
          case rel => exact ⟨j + 1, rfl, by omega, by go_num, HK2⟩
        · go_wp2_with fail
          go_roundg (D.ls.length - (k + 1))
          case measure => omega
          case rel => exact ⟨k + 1, rfl, by omega, by go_num, HK⟩
    · have hb := HB.out.keeps HK.out fun h => h
      have c3 : wr.cell? ⟨D.b, 3, none⟩ = some (.slice ta D.ts.length tc) := by rw [← HTV.out]; exact hb.cell 3
      clear hb
      go_wp2_with fail
      clear c3
      have HKW := HK
      go_loopg [38] D.ts.length (fun gk iv wt => ∃ i : Nat, gk = D.ts.length - i ∧ i ≤ D.ts.length ∧ iv = .int .i64 i ∧ Hid (Keeps Non w wt))
      case atStart => exact ⟨0, rfl, Nat.zero_le _, rfl, HK⟩
      case round =>
        clear HK HKW
        obtain ⟨i, rfl, hi, rfl, HK⟩ := hrel
        by_cases hli : i < D.ts.length
        · have hts := law_ts (HP.out.non HK.out)
          rw [HTV.out] at hts
          obtain ⟨b', o', c', hsh, -, -, -, hltb, hcc, hfz⟩ := hts.pos (by omega)
          cases hsh
          obtain ⟨⟨v, m⟩, hx⟩ : ∃ x, D.ts[i]? = some x := ⟨_, List.getElem?_eq_getElem hli⟩
          have d0 : wr.cell? ⟨b', o' + i, none⟩ = some v := (hcc i (by omega)).trans (by simp [hx])
          have hsl : Sl w 0 TNd 3 v m (nodeCells (List.replicate m ⟨markL i, 0, []⟩)) := HP.out.all (tsPart i (v, m)) (List.mem_append_right _ (List.mem_append_right _ (List.mem_append_right _ (List.mem_append_right _ (by have := tsParts_mem D.ts 0 i _ hx; rwa [Nat.zero_add] at this)))))
          obtain ⟨va, vc, rfl, hm1, hm2⟩ := hsl.shape
          unfold maxLen at hm2
          have HSL := Lib.hid hsl
          clear hcc hfz hx hsl hts
          go_wp2_with fail
          go_loopg [45] m (fun gk iv wq => ∃ j : Nat, gk = m - j ∧ j ≤ m ∧ iv = .int .i64 j ∧ Hid (Keeps Non w wq))
          case atStart => exact ⟨0, rfl, Nat.zero_le _, rfl, HK⟩
          case round =>
            clear HK
            obtain ⟨j, rfl, hj, rfl, HK⟩ := hrel
            by_cases hlj : j < m
            · have hsl : Sl wr 0 TNd 3 (.slice va m vc) m (nodeCells (List.replicate m ⟨markL i, 0, []⟩)) := HSL.out.keep fun b c _ _ hbk => hbk.keeps HK.out fun h => h
              obtain ⟨bb, oo, cc', hsh, -, -, -, hltb2, hcc, hfz⟩ := hsl.pos (by omega)
              cases hsh
              have hat := nodeCells_at (List.replicate m (⟨markL i, 0, []⟩ : Node)) j (by simpa using hlj)
              simp only [List.getElem_replicate] at hat
              have e0 : wr.cell? ⟨bb, oo + j * 3, none⟩ = some (sv (markL i)) := (hcc _ (by omega)).trans hat.1
              have e1 : wr.cell? ⟨bb, oo + j * 3 + 1, none⟩ = some (.int .i64 0) := (hcc _ (by omega)).trans hat.2.1
              have e2 : wr.cell? ⟨bb, oo + j * 3 + 2, none⟩ = some (sv []) := (hcc _ (by omega)).trans hat.2.2
              unfold sv at e0 e2
              clear hcc hfz hsl hat
              have q2 : (0 : Int) ≤ (j : Int) := by omega
              have q3 : (j : Int) < (m : Int) := by omega
              have q4 : IntKind.i64.wrap (j : Int) = (j : Int) := IntWalk.i64_in _ (by omega)
              go_upto_region 17 with (fail)
              have HKA : Hid (Keeps Non w (wr.alloc (.cells #[.string ⟨(markL i).toArray⟩, .int .i64 0, .string ⟨[].toArray⟩] 49))) := HK.out.alloc _
              have HBN : Hid (Blk (wr.alloc (.cells #[.string ⟨(markL i).toArray⟩, .int .i64 0, .string ⟨[].toArray⟩] 49)) wr.heap.size #[.string ⟨(markL i).toArray⟩, .int .i64 0, .string ⟨[].toArray⟩] 49) := Blk.new wr _ _
              generalize wr.heap.size = nb at *
              generalize wr.alloc (.cells #[.string ⟨(markL i).toArray⟩, .int .i64 0, .string ⟨[].toArray⟩] 49) = W1 at *
              have HM : Hid (∀ wx, Calls Tryz.prog 71 #[.int .i64 i] wx fun e w' => e = .returned (sv (markL i)) ∧ Keeps Non wx w') := fun wx => mark_any i wx (by omega)
              have n0 := HBN.out.cell 0
              have n1 := HBN.out.cell 1
              have n2 := HBN.out.cell 2
              simp only [List.getElem?_toArray, List.getElem?_cons_zero, List.getElem?_cons_succ] at n0 n1 n2
              have hc : Keeps Non W1 W1 := Keeps.refl _ _
              go_region_with (go_at_call 71; refine (HM.out _).mono ?_; rintro e w2 ⟨rfl, hk⟩; replace hc := Keeps.tn hc (by first | exact hk | exact hk.un); clear hk; have n0 := (HBN.out.keeps hc fun h => h).cell 0; have n1 := (HBN.out.keeps hc fun h => h).cell 1; have n2 := (HBN.out.keeps hc fun h => h).cell 2; simp only [List.getElem?_toArray, List.getElem?_cons_zero, List.getElem?_cons_succ] at n0 n1 n2; unfold sv)
              all_goals (
                have HK2 := Lib.hid (HKA.out.tn hc)
                clear hc n0 n1 n2
                go_wp2_with fail
                go_roundg (m - (j + 1))
                case measure => omega
                case rel => exact ⟨j + 1, rfl, by omega, by go_num, by first | exact HK2 | exact HK2.out.drew | exact HK2.out.drewN _⟩)
            · go_wp2_with fail
              go_roundg (D.ts.length - (i + 1))
              case measure => omega
              case rel => exact ⟨i + 1, rfl, by omega, by go_num, HK⟩
        · go_wp2_with fail
          go_ret
          exact ⟨rfl, HK.out⟩
end Go.Proofs.YtdkogijdfgfpeaaGreatDoor
/- narlaw.UpTo, where no Export and no Import is held. -/
namespace Go.Proofs.YtdkogijdfgfpeaaGreatDoor
open Go Go.RowKit
set_option linter.unusedVariables false

/-- the law's World at its start -/
def freshW (b : Nat) : LD := ⟨b, .slice none 0 0, .slice none 0 0, .slice none 0 0, .slice none 0 0, [], [], [], []⟩
theorem Parts.empty {ps : List Part} {w : World} (h : Parts ps w) (E : TypeId) (size : Nat) : Parts (slPart E size (.slice none 0 0) 0 [] :: ps) w :=
  h.add (q := slPart E size (.slice none 0 0) 0 []) (Sl.nil w 0 E size) (Keeps.refl _ _) fun j hj => by cases hj
theorem fresh_parts (w : World) : Parts ([lowPart w] ++ lawParts (freshW w.heap.size)) (w.alloc (.cells #[.slice none 0 0, .slice none 0 0, .slice none 0 0, .slice none 0 0, .bool false] TWd)) := by
  have h0 : Parts [lowPart w] w := ⟨fun p hp => by
    simp only [List.mem_cons, List.not_mem_nil, or_false] at hp
    subst hp
    exact (Keeps.refl Non w).below (Nat.le_refl _) (fun _ _ h => h), List.pairwise_singleton _ _⟩
  have h1 := h0.blk #[.slice none 0 0, .slice none 0 0, .slice none 0 0, .slice none 0 0, .bool false] TWd
  have h2 := (((h1.empty TPr 2).empty TStr 1).empty TStrs 1).empty TNds 1
  exact h2.perm (List.reverse_perm (lowPart w :: lawParts (freshW w.heap.size))).symm
set_option maxHeartbeats 6400000 in
set_option maxRecDepth 100000 in
theorem upto_any (l : List OpV) (v : Value) (only : Int) (w : World) (hT : Tabs w) (hv : Rd w 8 v l.length (opsC l)) (ho : ∀ o ∈ l, OpAt w o) (hl : l.length ≤ 200000) (hne : only ≠ 0) (h5 : only ≤ 5) (hlo : -1 ≤ only) :
    Calls Tryz.prog 15 #[v, .int .i64 only] w fun e w' => e = .returned (.int .i64 (-1)) ∧ Below w.heap.size w w' := by
  obtain ⟨va, vc, rfl, hc1, hc2⟩ := hv.shape
  unfold maxLen at hc2
  have HV := Lib.hid hv
  have HO := Lib.hid ho
  have HT := Lib.hid hT
  have HP0 := Lib.hid (fresh_parts w)
  have t0 : (only == 0) = false := by rw [beq_eq_false_iff_ne]; exact hne
  clear hv ho hT
  go_enter Tryz.func15, Tryz.ntmps15
  go_upto_region 2 with (fail)
  generalize hbe : w.heap.size = b0 at *
  generalize w.alloc (.cells #[.slice none 0 0, .slice none 0 0, .slice none 0 0, .slice none 0 0, .bool false] 73) = w1 at *
  have HBE := Lib.hid hbe
  clear hbe
  go_wp2_with fail
  go_loopg [13] l.length (fun gk iv wr => ∃ (k : Nat) (D : LD), gk = l.length - k ∧ k ≤ l.length ∧ iv = .int .i64 k ∧ Hid (Parts ([lowPart w] ++ lawParts D) wr) ∧ Hid (D.b = b0) ∧ D.ps.length ≤ k ∧ D.ls.length ≤ k ∧ D.ts.length ≤ k)
  case atStart => exact ⟨0, freshW b0, rfl, Nat.zero_le _, rfl, HP0, rfl, Nat.le_refl _, Nat.le_refl _, Nat.le_refl _⟩
  case round =>
    clear HP0
    obtain ⟨k, D, rfl, hk, rfl, HP, HDB, hnp, hnl, hnt⟩ := hrel
    by_cases hlt : k < l.length
    · obtain ⟨o, ho⟩ : ∃ o, l[k]? = some o := ⟨_, List.getElem?_eq_getElem hlt⟩
      have hO := HO.out o (List.mem_of_getElem? ho)
      have hlow := law_low HP.out (List.mem_cons_self ..)
      obtain ⟨b, off, cp, hsh, -, -, -, hbl, hc, -⟩ := (HV.out.low hlow).pos (by omega)
      cases hsh
      obtain ⟨c0, c1, c2, c3, c4, c5, c6, c7⟩ := op_cells hlt hc ho
      have hik := hO.ik
      have HOP := Lib.hid hO
      clear hc ho hO hlow
      obtain ⟨kind, a, c, s, bb, vl, vm, vd, L, M, Dd⟩ := o
      obtain ⟨la, lc, hsl, -, -⟩ := HOP.out.rl.shape
      obtain ⟨ma, mc, hsm, -, -⟩ := HOP.out.rm.shape
      obtain ⟨da, dc, hsd, -, -⟩ := HOP.out.rd.shape
      simp only at c0 c1 c2 c3 c4 c5 c6 c7 hik hsl hsm hsd
      subst hsl hsm hsd
      have HPO : Hid (Parts ((blkPart wr.heap.size (opC ⟨kind, a, c, s, bb, .slice la L.length lc, .slice ma M.length mc, .slice da Dd.length dc, L, M, Dd⟩).toArray TOp :: [lowPart w]) ++ lawParts D) (wr.alloc (.cells (opC ⟨kind, a, c, s, bb, .slice la L.length lc, .slice ma M.length mc, .slice da Dd.length dc, L, M, Dd⟩).toArray TOp))) := HP.out.blk _ _
      unfold opC at HPO
      go_upto_region 5 with (fail)
      generalize wr.heap.size = nb at *
      generalize wr.alloc (.cells (List.toArray [.int .i64 kind, .int .i64 a, .int .i64 c, .string s, .string bb, .slice la L.length lc, .slice ma M.length mc, .slice da Dd.length dc]) 67) = W1 at *
      have hob : Blk W1 nb (List.toArray [.int .i64 kind, .int .i64 a, .int .i64 c, .string s, .string bb, .slice la L.length lc, .slice ma M.length mc, .slice da Dd.length dc]) TOp := HPO.out.head
      have d0 := hob.cell 0
      have d1 := hob.cell 1
      have d2 := hob.cell 2
      have d3 := hob.cell 3
      have d4 := hob.cell 4
      have d5 := hob.cell 5
      have d6 := hob.cell 6
      have d7 := hob.cell 7
      simp only [List.getElem?_toArray, List.getElem?_cons_zero, List.getElem?_cons_succ] at d0 d1 d2 d3 d4 d5 d6 d7
      clear hob c0 c1 c2 c3 c4 c5 c6 c7 HP
      by_cases h5k : kind ≤ 5
      · have HSTEP : Hid (Calls Tryz.prog 32 #[pv D.b, .agg (opC ⟨kind, a, c, s, bb, .slice la L.length lc, .slice ma M.length mc, .slice da Dd.length dc, L, M, Dd⟩).toArray] W1 (StepPost (blkPart nb (List.toArray [.int .i64 kind, .int .i64 a, .int .i64 c, .string s, .string bb, .slice la L.length lc, .slice ma M.length mc, .slice da Dd.length dc]) TOp :: [lowPart w]) D)) :=
          step_any (W0 := w) ⟨HPO.out, by simp, HOP.out, HT.out, by omega, by omega, by omega⟩ h5k
        rw [HDB.out] at HSTEP
        unfold pv opC at HSTEP
        go_wp2_with fail
        refine (stage_any kind W1 hik.1 hik.2).mono ?_
        rintro e w2 ⟨rfl, rfl⟩
        rw [if_pos h5k]
        go_wp2_with fail
        refine (stage_any only W1 (by omega) (by omega)).mono ?_
        rintro e w2 ⟨rfl, rfl⟩
        rw [if_pos h5]
        go_upto_region 6 with (fail)
        go_cut [8] (fun hv wx => (∃ g, hv = .bool g) ∧ W1 = wx)
        case first =>
          clear HSTEP
          obtain ⟨g1, hg1⟩ : ∃ g, (kind == only) = g := ⟨_, rfl⟩
          obtain ⟨g2, hg2⟩ : ∃ g, (only == -1) = g := ⟨_, rfl⟩
          obtain ⟨g3, hg3⟩ : ∃ g, (kind == 3) = g := ⟨_, rfl⟩
          obtain ⟨g4, hg4⟩ : ∃ g, (kind == 4) = g := ⟨_, rfl⟩
          obtain ⟨g5, hg5⟩ : ∃ g, (kind == 5) = g := ⟨_, rfl⟩
          cases g1 <;> cases g2 <;> cases g3 <;> cases g4 <;> cases g5 <;> (go_wp2_with fail; go_meet; exact ⟨⟨_, rfl⟩, rfl⟩)
        case rest =>
          obtain ⟨⟨g, rfl⟩, rfl⟩ := hcut
          go_wp2_with fail
          refine HSTEP.out.mono ?_
          rintro e w3 ⟨rfl, D', hn, hp3⟩
          have HP3 : Hid (Parts ([lowPart w] ++ lawParts D') w3) := hp3.tail
          have HDB3 : Hid (D'.b = b0) := hn.b.trans HDB.out
          have hnp3 : D'.ps.length ≤ k + 1 := by have := hn.ps; omega
          have hnl3 : D'.ls.length ≤ k + 1 := by have := hn.ls; omega
          have hnt3 : D'.ts.length ≤ k + 1 := by have := hn.ts; omega
          clear hn hp3 HSTEP HPO d0 d1 d2 d3 d4 d5 d6 d7
          by_cases hm : only = -1
          · subst hm
            have HL := Lib.hid (looks_any [lowPart w] D' w3 HP3.out (by omega) (by omega))
            rw [HDB3.out] at HL
            unfold pv at HL
            go_wp2_with fail
            refine HL.out.mono ?_
            rintro e w4 ⟨rfl, hk4⟩
            have HP4 := Lib.hid (HP3.out.non hk4)
            clear hk4 HL HP3
            go_wp2_with fail
            go_roundg (l.length - (k + 1))
            case measure => omega
            case rel => exact ⟨k + 1, D', rfl, by omega, by go_num, HP4, HDB3, hnp3, hnl3, hnt3⟩
          · have hm2 : (only == -1) = false := by rw [beq_eq_false_iff_ne]; exact hm
            go_wp2_with fail
            go_roundg (l.length - (k + 1))
            case measure => omega
            case rel => exact ⟨k + 1, D', rfl, by omega, by go_num, HP3, HDB3, hnp3, hnl3, hnt3⟩
      · go_wp2_with fail
        refine (stage_any kind W1 hik.1 hik.2).mono ?_
        rintro e w2 ⟨rfl, rfl⟩
        rw [if_neg (by omega : ¬ kind ≤ 5)]
        go_wp2_with fail
        refine (stage_any only W1 (by omega) (by omega)).mono ?_
        rintro e w2 ⟨rfl, rfl⟩
        rw [if_pos h5]
        have HPF : Hid (Parts ([lowPart w] ++ lawParts D) W1) := HPO.out.tail
        clear HPO d0 d1 d2 d3 d4 d5 d6 d7
        go_wp2_with fail
        go_roundg (l.length - (k + 1))
        case measure => omega
        case rel => exact ⟨k + 1, D, rfl, by omega, by go_num, HPF, HDB, by omega, by omega, by omega⟩
    · go_wp2_with fail
      go_ret
      exact ⟨rfl, law_low HP.out (List.mem_cons_self ..)⟩
end Go.Proofs.YtdkogijdfgfpeaaGreatDoor
/- The laws over a script: Inserts, Gets, Paths, Closures, Owned. -/
namespace Go.Proofs.YtdkogijdfgfpeaaGreatDoor
open Go Go.RowKit
set_option linter.unusedVariables false

set_option maxHeartbeats 800000 in
set_option maxRecDepth 100000 in
theorem inserts_walk (v : Value) (l : List OpV) (w : World) (hT : Tabs w) (hv : Rd w 8 v l.length (opsC l)) (ho : ∀ o ∈ l, OpAt w o) (hl : l.length ≤ 200000) :
    Calls Tryz.prog 3 #[v] w fun e w' => e = .returned (.bool true) ∧ Below w.heap.size w w' := by
  obtain ⟨va, vc, rfl, hc1, hc2⟩ := hv.shape
  have HV := Lib.hid hv
  have HO := Lib.hid ho
  have HT := Lib.hid hT
  clear hv ho hT
  go_enter Tryz.func3, Tryz.ntmps3
  go_wp2_with fail
  refine (small_any l _ w HV.out HO.out hl).mono ?_
  rintro e w1 ⟨⟨g, rfl⟩, hk⟩
  have hb := hk.below (Nat.le_refl _) (fun _ _ h => h)
  have HB := Lib.hid hb
  have HU := Lib.hid (upto_any l _ (2) w1 (HT.out.keeps hk) (HV.out.low hb) (fun o ho => (HO.out o ho).low hb) hl (by decide) (by decide) (by decide))
  clear hk hb
  cases g
  · go_wp2_with fail
    go_ret
    exact ⟨rfl, HB.out⟩
  · go_wp2_with fail
    refine HU.out.mono ?_
    rintro e w2 ⟨rfl, hb2⟩
    have HB2 : Hid (Below w.heap.size w w2) := ⟨hb2.os.trans HB.out.os, hb2.tape.trans HB.out.tape, hb2.output.trans HB.out.output, Nat.le_trans HB.out.size hb2.size, fun j hj => (hb2.block j (Nat.lt_of_lt_of_le hj HB.out.size)).trans (HB.out.block j hj)⟩
    clear hb2
    go_wp2_with fail
    go_ret
    exact ⟨rfl, HB2.out⟩
set_option maxHeartbeats 800000 in
set_option maxRecDepth 100000 in
theorem gets_walk (v : Value) (l : List OpV) (w : World) (hT : Tabs w) (hv : Rd w 8 v l.length (opsC l)) (ho : ∀ o ∈ l, OpAt w o) (hl : l.length ≤ 200000) :
    Calls Tryz.prog 4 #[v] w fun e w' => e = .returned (.bool true) ∧ Below w.heap.size w w' := by
  obtain ⟨va, vc, rfl, hc1, hc2⟩ := hv.shape
  have HV := Lib.hid hv
  have HO := Lib.hid ho
  have HT := Lib.hid hT
  clear hv ho hT
  go_enter Tryz.func4, Tryz.ntmps4
  go_wp2_with fail
  refine (small_any l _ w HV.out HO.out hl).mono ?_
  rintro e w1 ⟨⟨g, rfl⟩, hk⟩
  have hb := hk.below (Nat.le_refl _) (fun _ _ h => h)
  have HB := Lib.hid hb
  have HU := Lib.hid (upto_any l _ (3) w1 (HT.out.keeps hk) (HV.out.low hb) (fun o ho => (HO.out o ho).low hb) hl (by decide) (by decide) (by decide))
  clear hk hb
  cases g
  · go_wp2_with fail
    go_ret
    exact ⟨rfl, HB.out⟩
  · go_wp2_with fail
    refine HU.out.mono ?_
    rintro e w2 ⟨rfl, hb2⟩
    have HB2 : Hid (Below w.heap.size w w2) := ⟨hb2.os.trans HB.out.os, hb2.tape.trans HB.out.tape, hb2.output.trans HB.out.output, Nat.le_trans HB.out.size hb2.size, fun j hj => (hb2.block j (Nat.lt_of_lt_of_le hj HB.out.size)).trans (HB.out.block j hj)⟩
    clear hb2
    go_wp2_with fail
    go_ret
    exact ⟨rfl, HB2.out⟩
set_option maxHeartbeats 800000 in
set_option maxRecDepth 100000 in
theorem paths_walk (v : Value) (l : List OpV) (w : World) (hT : Tabs w) (hv : Rd w 8 v l.length (opsC l)) (ho : ∀ o ∈ l, OpAt w o) (hl : l.length ≤ 200000) :
    Calls Tryz.prog 5 #[v] w fun e w' => e = .returned (.bool true) ∧ Below w.heap.size w w' := by
  obtain ⟨va, vc, rfl, hc1, hc2⟩ := hv.shape
  have HV := Lib.hid hv
  have HO := Lib.hid ho
  have HT := Lib.hid hT
  clear hv ho hT
  go_enter Tryz.func5, Tryz.ntmps5
  go_wp2_with fail
  refine (small_any l _ w HV.out HO.out hl).mono ?_
  rintro e w1 ⟨⟨g, rfl⟩, hk⟩
  have hb := hk.below (Nat.le_refl _) (fun _ _ h => h)
  have HB := Lib.hid hb
  have HU := Lib.hid (upto_any l _ (4) w1 (HT.out.keeps hk) (HV.out.low hb) (fun o ho => (HO.out o ho).low hb) hl (by decide) (by decide) (by decide))
  clear hk hb
  cases g
  · go_wp2_with fail
    go_ret
    exact ⟨rfl, HB.out⟩
  · go_wp2_with fail
    refine HU.out.mono ?_
    rintro e w2 ⟨rfl, hb2⟩
    have HB2 : Hid (Below w.heap.size w w2) := ⟨hb2.os.trans HB.out.os, hb2.tape.trans HB.out.tape, hb2.output.trans HB.out.output, Nat.le_trans HB.out.size hb2.size, fun j hj => (hb2.block j (Nat.lt_of_lt_of_le hj HB.out.size)).trans (HB.out.block j hj)⟩
    clear hb2
    go_wp2_with fail
    go_ret
    exact ⟨rfl, HB2.out⟩
set_option maxHeartbeats 800000 in
set_option maxRecDepth 100000 in
theorem closures_walk (v : Value) (l : List OpV) (w : World) (hT : Tabs w) (hv : Rd w 8 v l.length (opsC l)) (ho : ∀ o ∈ l, OpAt w o) (hl : l.length ≤ 200000) :
    Calls Tryz.prog 6 #[v] w fun e w' => e = .returned (.bool true) ∧ Below w.heap.size w w' := by
  obtain ⟨va, vc, rfl, hc1, hc2⟩ := hv.shape
  have HV := Lib.hid hv
  have HO := Lib.hid ho
  have HT := Lib.hid hT
  clear hv ho hT
  go_enter Tryz.func6, Tryz.ntmps6
  go_wp2_with fail
  refine (small_any l _ w HV.out HO.out hl).mono ?_
  rintro e w1 ⟨⟨g, rfl⟩, hk⟩
  have hb := hk.below (Nat.le_refl _) (fun _ _ h => h)
  have HB := Lib.hid hb
  have HU := Lib.hid (upto_any l _ (5) w1 (HT.out.keeps hk) (HV.out.low hb) (fun o ho => (HO.out o ho).low hb) hl (by decide) (by decide) (by decide))
  clear hk hb
  cases g
  · go_wp2_with fail
    go_ret
    exact ⟨rfl, HB.out⟩
  · go_wp2_with fail
    refine HU.out.mono ?_
    rintro e w2 ⟨rfl, hb2⟩
    have HB2 : Hid (Below w.heap.size w w2) := ⟨hb2.os.trans HB.out.os, hb2.tape.trans HB.out.tape, hb2.output.trans HB.out.output, Nat.le_trans HB.out.size hb2.size, fun j hj => (hb2.block j (Nat.lt_of_lt_of_le hj HB.out.size)).trans (HB.out.block j hj)⟩
    clear hb2
    go_wp2_with fail
    go_ret
    exact ⟨rfl, HB2.out⟩
set_option maxHeartbeats 800000 in
set_option maxRecDepth 100000 in
theorem owned_walk (v : Value) (l : List OpV) (w : World) (hT : Tabs w) (hv : Rd w 8 v l.length (opsC l)) (ho : ∀ o ∈ l, OpAt w o) (hl : l.length ≤ 200000) :
    Calls Tryz.prog 9 #[v] w fun e w' => e = .returned (.bool true) ∧ Below w.heap.size w w' := by
  obtain ⟨va, vc, rfl, hc1, hc2⟩ := hv.shape
  have HV := Lib.hid hv
  have HO := Lib.hid ho
  have HT := Lib.hid hT
  clear hv ho hT
  go_enter Tryz.func9, Tryz.ntmps9
  go_wp2_with fail
  refine (small_any l _ w HV.out HO.out hl).mono ?_
  rintro e w1 ⟨⟨g, rfl⟩, hk⟩
  have hb := hk.below (Nat.le_refl _) (fun _ _ h => h)
  have HB := Lib.hid hb
  have HU := Lib.hid (upto_any l _ (-1) w1 (HT.out.keeps hk) (HV.out.low hb) (fun o ho => (HO.out o ho).low hb) hl (by decide) (by decide) (by decide))
  clear hk hb
  cases g
  · go_wp2_with fail
    go_ret
    exact ⟨rfl, HB.out⟩
  · go_wp2_with fail
    refine HU.out.mono ?_
    rintro e w2 ⟨rfl, hb2⟩
    have HB2 : Hid (Below w.heap.size w w2) := ⟨hb2.os.trans HB.out.os, hb2.tape.trans HB.out.tape, hb2.output.trans HB.out.output, Nat.le_trans HB.out.size hb2.size, fun j hj => (hb2.block j (Nat.lt_of_lt_of_le hj HB.out.size)).trans (HB.out.block j hj)⟩
    clear hb2
    go_wp2_with fail
    go_ret
    exact ⟨rfl, HB2.out⟩
end Go.Proofs.YtdkogijdfgfpeaaGreatDoor
