/- narkeep.stored: the walk. -/
import Derived.Test.YtohbjbicmgnblaaDoorChecked
import Derived.Test.YtohbjbicmgnblaaDoorStoredM
import Derived.Lib.MinMax
namespace Go.Proofs.YtohbjbicmgnblaaDoor
open Go Go.RowKit
set_option linter.unusedVariables false

theorem infoStrs : (Tryd.prog.info? 31).map (fun i => (i.zero, i.size, i.bytes)) = some (some (.slice none 0 0), 1, 24) := by kernel_rfl
/-- what narkeep.stored leaves -/
def StoredPost (w : World) (e : Ending) (w' : World) : Prop := ∃ (n xb st : Nat) (F : Nat → Prop) (L : Ents) (RR : List (List (List UInt8))) (vn vr : Value) (xs : List Value),
  e = .returned (.tuple #[pv xb, vn, vr, .bool true]) ∧ 0 < n ∧ Filling n RR L ∧ SSt w w' F st xb L (namesOf n) RR vn vr xs
set_option maxHeartbeats 4000000 in
set_option maxRecDepth 100000 in
theorem stored_any (s : ByteArray) (w : World) (hs : s.size ≤ 1000000) (h2 : 2 ≤ s.size) (hT : Tabs w) :
    Calls Tryd.prog 10 #[.string s] w (StoredPost w) := by
  have kc := fun (w : World) (n : Int) => run_string_one (P := Tryd.prog) 49 5 Tryd.underlying49 Tryd.underlying5 9 Tryd.underlying9 5 w n
  have HT := Lib.hid hT
  clear hT
  go_enter Tryd.func10, Tryd.ntmps10
  go_wp2_with fail
  refine (newStore_any w HT.out.top).mono ?_
  rintro e w1 ⟨xb, st, F0, rfl, hx1, hx2, hst, hF0, hx3, hk1⟩
  have HSS : Hid (SSt w w1 F0 st xb [] [] [] (.slice none 0 0) (.slice none 0 0) []) := by
    refine ⟨hst, hx2, Sl.nil _ _ _ _, Sl.nil _ _ _ _, by simp, hk1, hF0, ⟨hx1, hx3⟩, ?_, ?_⟩ <;> intro b hb <;> cases hb
  clear hx1 hx2 hst hF0 hx3 hk1
  unfold pv
  go_wp2_with fail
  go_loopg [7, 8, 9] 11 (fun gk vn vr iv wr => ∃ (n i : Nat) (F : Nat → Prop) (L : Ents) (RR : List (List (List UInt8))) (xs : List Value), gk = 11 - n ∧ n ≤ 10 ∧ Hid (i = 2 * n) ∧ i ≤ s.size ∧ iv = .int .i64 i ∧ Hid (Filling n RR L) ∧ Hid (SSt w wr F st xb L (namesOf n) RR vn vr xs))
  case atStart => exact ⟨0, 0, F0, [], [], [], rfl, by omega, rfl, by omega, rfl, Filling.nil, HSS⟩
  case round =>
    clear HSS
    obtain ⟨n, i, F, L, RR, xs, rfl, hn10, hi2, his, rfl, HFI, HS⟩ := hrel
    obtain ⟨na, nc, rfl, hn1, hn2⟩ := HS.out.names.shape
    rw [namesOf_len] at hn1
    have hnl := namesOf_len n
    rw [hnl] at HS ⊢
    by_cases h1 : i + 1 < s.size
    · have e1 : IntKind.i64.wrap ((i : Int) + 1) = (i : Int) + 1 := IntWalk.i64_in _ (by omega)
      have d1 : decide ((i : Int) + 1 < (s.size : Int)) = true := by simp; omega
      by_cases h10 : n < 10
      · have d2 : decide ((n : Int) < 10) = true := by simp; omega
        go_upto_region 9 with (fail)
        obtain ⟨y, hy⟩ : ∃ y : Nat, ((7 : Int) * (n : Int) + 3) % 26 = (y : Int) := ⟨(7 * n + 3) % 26, by omega⟩
        have hy2 : y ≤ 25 := by omega
        have HY : Hid (y = (7 * n + 3) % 26) := by show _ = _; omega
        have e3 : IntKind.i64.wrap (7 * (n : Int)) = 7 * (n : Int) := IntWalk.i64_in _ (by omega)
        have e4 : IntKind.i64.wrap (7 * (n : Int) + 3) = 7 * (n : Int) + 3 := IntWalk.i64_in _ (by omega)
        have e5 : IntKind.i64.wrap (97 + (y : Int)) = 97 + (y : Int) := IntWalk.i64_in _ (by omega)
        have e9 : ((97 : Int) + (y : Int)).toNat = 97 + y := by omega
        go_upto_region 10 with (fail)
        have HNM : (⟨#[97 + UInt8.ofNat y]⟩ : ByteArray) ++ ⟨#[45, 49]⟩ = ⟨#[fb n, 45, 49]⟩ := by
          have h1 : (97 : UInt8) + UInt8.ofNat y = fb n := by
            unfold fb
            rw [← HY.out, UInt8.ofNat_add]
            rfl
          rw [h1]
          rfl
        rw [HNM]
        have HK2 : Keeps Non wr (wr.alloc (.cells #[.int .u8 (97 + (y : Int))] 5)) := (Keeps.refl _ _).alloc _
        obtain ⟨W2, hW2⟩ : ∃ W2, W2 = wr.alloc (.cells #[.int .u8 (97 + (y : Int))] 5) := ⟨_, rfl⟩
        rw [← hW2] at HK2
        rw [← hW2]
        have HS2 := Lib.hid (HS.out.non HK2)
        clear HNM HK2 hW2 HY hy hy2 e3 e4 e5 e9 kc HS
        go_wp2_with fail
        go_loopg [11, 12] 26 (fun gk vr' cv wx => ∃ (c : Nat) (cs : List UInt8), gk = 123 - c ∧ 97 ≤ c ∧ c ≤ 123 ∧ cv = .int .u8 c ∧ Hid (Letters n c 0 cs) ∧ Hid (Sl wx W2.heap.size 9 1 vr' cs.length (svs (cs.map nm))) ∧ Hid (Keeps Non W2 wx))
        case atStart => exact ⟨97, [], rfl, by omega, by omega, rfl, Letters.start _ _, Sl.nil _ _ _ _, Keeps.refl _ _⟩
        case round =>
          obtain ⟨c, cs, rfl, hc97, hc123, rfl, HL, HR, HK⟩ := hrel
          by_cases hc : c ≤ 122
          · have d3 : decide ((c : Int) ≤ 122) = true := by simp; omega
            go_upto_region 14 with (fail)
            go_wp2_with fail
            go_loopg [11, 46] n (fun gk vr' iv wx => ∃ (k : Nat) (cs : List UInt8), gk = n - k ∧ k ≤ n ∧ iv = .int .i64 k ∧ Hid (Letters n c k cs) ∧ Hid (Sl wx W2.heap.size 9 1 vr' cs.length (svs (cs.map nm))) ∧ Hid (Keeps Non W2 wx))
            case atStart => exact ⟨0, cs, rfl, by omega, rfl, HL, HR, HK⟩
            case round =>
              clear HL HR HK
              obtain ⟨k, cs, rfl, hkn, rfl, HL, HR, HK⟩ := hrel
              obtain ⟨ra, rc, rfl, hrc1, hrc2⟩ := HR.out.shape
              by_cases hlt : k < n
              · have HSX := Lib.hid (HS2.out.non HK.out)
                have hnm := HSX.out.names
                rw [hnl] at hnm
                obtain ⟨b', o', c', hsh, -, -, -, hltb, hcc, -⟩ := hnm.pos (by omega)
                cases hsh
                have d0 : wr.cell? ⟨b', o' + k, none⟩ = some (sv (nm (fb k))) := (hcc k (by omega)).trans (by simp [svs, namesOf_at hlt])
                unfold sv nm at d0
                clear hcc HSX hnm
                obtain ⟨f, hf⟩ : ∃ f, f = (fb k).toNat := ⟨_, rfl⟩
                have q0 : ((⟨#[fb k, 45, 49]⟩ : ByteArray)[0]'(Nat.zero_lt_succ 2)).toNat = f := hf.symm
                by_cases hfc : f = c
                · have hb0 : ((f : Int) == (c : Int)) = true := by rw [hfc]; simp
                  go_upto_region 17 with (fail)
                  go_upto_if 64 with (fail)
                  obtain ⟨i0, hi, hi0, hi1, hi2'⟩ := info_parts infoStr
                  have hsl := HR.out
                  have hsz := HK.out.size
                  have hcl : cs.length ≤ 10 := by
                    have h3 := nodup_len (cs.map nm) (namesOf (n + 1)) (List.Pairwise.map nm (fun a b h e => h (nm_inj e)) (HL.out.rise.imp fun h => fun e => by rw [e] at h; exact absurd h (UInt8.lt_irrefl _))) fun x hx => by
                      obtain ⟨a, ha, rfl⟩ := List.mem_map.1 hx
                      obtain ⟨j, hj, rfl⟩ := HL.out.mem a ha
                      exact namesOf_mem.2 ⟨j, by omega, rfl⟩
                    rw [List.length_map, namesOf_len] at h3
                    omega
                  go_upto_region 18 with (fail)
                  · go_wp2_with (at_builtin; refine wpList_append_own2 rfl _ _ 31 31 rfl 9 i0 _ 1 16 Tryd.underlying31 hi hi0 hi1 hi2' rfl W2.heap.size _ _ _ rfl _ rfl 1 (svs [nm (fb k)]) ?c1 (hsl.alloc _) ?c2 ?c3 ?c4 ?_)
                    case c1 => simp; omega
                    case c2 => exact Src.ofSl Tryd.underlying31 (Sl.of_new wr 0 (Nat.zero_le _) 9 1 1 [.string ⟨#[fb k, 45, 49]⟩] rfl (by simp [maxLen])) (by intro u hu; simp only [svs, sv, List.map, List.mem_cons, List.not_mem_nil, or_false] at hu; subst hu; rfl)
                    case c3 => unfold maxLen; omega
                    case c4 => omega
                    intro ao cc w8 hs8 hk8 hkk8 hb8
                    have HL8 := Lib.hid (HL.out.push h10 hkn (hf.symm.trans hfc))
                    have HR8 : Hid (Sl w8 W2.heap.size 9 1 (.slice ao (cs.length + 1) cc) (cs ++ [fb k]).length (svs ((cs ++ [fb k]).map nm))) := by
                      show Sl _ _ _ _ _ _ _
                      simpa [svs] using hs8
                    have HK8 : Hid (Keeps Non W2 w8) := (HK.out.alloc _).trans hkk8 fun j hj => .inr (hsl.own j hj).1
                    clear hs8 hk8 hkk8 hb8 hsl HL HR HK hi hi0 hi1 hi2'
                    go_wp2_with fail
                    go_roundg (n - (k + 1))
                    case measure => omega
                    case rel => exact ⟨k + 1, cs ++ [fb k], rfl, by omega, by go_num, HL8, HR8, HK8⟩
                  · go_roundg (n - (k + 1))
                    case measure => omega
                    case rel => exact ⟨k + 1, cs, rfl, by omega, by go_num, HL.out.pass, HR, HK⟩
                · have hb0 : ((f : Int) == (c : Int)) = false := by rw [beq_eq_false_iff_ne]; omega
                  go_wp2_with fail
                  go_roundg (n - (k + 1))
                  case measure => omega
                  case rel => exact ⟨k + 1, cs, rfl, by omega, by go_num, HL.out.pass, HR, HK⟩
              · have hk2 : n = k := by omega
                subst hk2
                go_upto_region 20 with (fail)
                obtain ⟨f, hf⟩ : ∃ f, f = (fb n).toNat := ⟨_, rfl⟩
                have q0 : ((⟨#[fb n, 45, 49]⟩ : ByteArray)[0]'(Nat.zero_lt_succ 2)).toNat = f := hf.symm
                by_cases hfc : f = c
                · have hb0 : ((f : Int) == (c : Int)) = true := by rw [hfc]; simp
                  have e2 : (0 : Int) ≤ (i : Int) + 1 := by omega
                  have e3 : ((i : Int) + 1).toNat = i + 1 := by omega
                  have e4 : (i : Int) + 1 < (s.size : Int) := by omega
                  obtain ⟨i0, hi, hi0, hi1, hi2'⟩ := info_parts infoStr
                  have hsl := HR.out
                  have hsz := HK.out.size
                  have hcl : cs.length ≤ 11 := by
                    have h3 := nodup_len (cs.map nm) (namesOf (n + 1)) (List.Pairwise.map nm (fun a b h e => h (nm_inj e)) (HL.out.rise.imp fun h => fun e => by rw [e] at h; exact absurd h (UInt8.lt_irrefl _))) fun x hx => by
                      obtain ⟨a, ha, rfl⟩ := List.mem_map.1 hx
                      obtain ⟨j, hj, rfl⟩ := HL.out.mem a ha
                      exact namesOf_mem.2 ⟨j, by omega, rfl⟩
                    rw [List.length_map, namesOf_len] at h3
                    omega
                  go_upto_region 21 with (fail)
                  · go_wp2_with (at_builtin; refine wpList_append_own2 rfl _ _ 31 31 rfl 9 i0 _ 1 16 Tryd.underlying31 hi hi0 hi1 hi2' rfl W2.heap.size _ _ _ rfl _ rfl 1 (svs [nm (fb n)]) ?c1 (hsl.alloc _) ?c2 ?c3 ?c4 ?_)
                    case c1 => simp; omega
                    case c2 => exact Src.ofSl Tryd.underlying31 (Sl.of_new wr 0 (Nat.zero_le _) 9 1 1 [.string ⟨#[fb n, 45, 49]⟩] rfl (by simp [maxLen])) (by intro u hu; simp only [svs, sv, List.map, List.mem_cons, List.not_mem_nil, or_false] at hu; subst hu; rfl)
                    case c3 => unfold maxLen; omega
                    case c4 => omega
                    intro ao cc w8 hs8 hk8 hkk8 hb8
                    have HL8 := Lib.hid (HL.out.push h10 (Nat.le_refl n) (hf.symm.trans hfc)).next
                    have HR8 : Hid (Sl w8 W2.heap.size 9 1 (.slice ao (cs.length + 1) cc) (cs ++ [fb n]).length (svs ((cs ++ [fb n]).map nm))) := by
                      show Sl _ _ _ _ _ _ _
                      simpa [svs] using hs8
                    have HK8 : Hid (Keeps Non W2 w8) := (HK.out.alloc _).trans hkk8 fun j hj => .inr (hsl.own j hj).1
                    clear hs8 hk8 hkk8 hb8 hsl HL HR HK hi hi0 hi1 hi2' hf hfc
                    go_wp2_with fail
                    go_roundg (123 - (c + 1))
                    case measure => omega
                    case rel => exact ⟨c + 1, cs ++ [fb n], rfl, by omega, by omega, by go_num, HL8, HR8, HK8⟩
                  · go_wp2_with fail
                    go_roundg (123 - (c + 1))
                    case measure => omega
                    case rel => exact ⟨c + 1, cs, rfl, by omega, by omega, by go_num, HL.out.next, HR, HK⟩
                · have hb0 : ((f : Int) == (c : Int)) = false := by rw [beq_eq_false_iff_ne]; omega
                  go_wp2_with fail
                  go_roundg (123 - (c + 1))
                  case measure => omega
                  case rel => exact ⟨c + 1, cs, rfl, by omega, by omega, by go_num, HL.out.next, HR, HK⟩
          · have d3 : decide ((c : Int) ≤ 122) = false := by simp; omega
            go_upto_region 22 with (fail)
            obtain ⟨ra, rc, rfl, hrc1, hrc2⟩ := HR.out.shape
            have HS3 := Lib.hid (HS2.out.non HK.out)
            have cx := HS3.out.box.cell 0
            simp only [List.getElem?_toArray, List.getElem?_cons_zero] at cx
            unfold pv at cx
            have hcl : cs.length ≤ 11 := by
              have h3 := nodup_len (cs.map nm) (namesOf (n + 1)) (List.Pairwise.map nm (fun a b h e => h (nm_inj e)) (HL.out.rise.imp fun h => fun e => by rw [e] at h; exact absurd h (UInt8.lt_irrefl _))) fun x hx => by
                obtain ⟨a, ha, rfl⟩ := List.mem_map.1 hx
                obtain ⟨j, hj, rfl⟩ := HL.out.mem a ha
                exact namesOf_mem.2 ⟨j, by omega, rfl⟩
              rw [List.length_map, namesOf_len] at h3
              omega
            have HINS : Hid (∀ (wx : World) (vg : Value) (lg : List Node), Grown lg → Rd wx 3 vg lg.length (nodeCells lg) → Keeps Non wr wx → Calls Tryd.prog 20 #[.pointer (some ⟨st, 0, none⟩), .string ⟨#[fb n, 45, 49]⟩, vg, .slice ra cs.length rc] wx fun ed w' =>
                (ed = .returned (.int .i64 0) ∧ (∃ F', StoreAt w' F' st (putE L ⟨nm (fb n), lg, cs.map nm⟩) ∧ ∀ k, F' k → F k ∨ (wx.heap.size ≤ k ∧ k < w'.heap.size)) ∧ Keeps F wx w')) := fun wx vg lg hg hrd hk => by
              have h1 := (HFI.out.step h10 hg.good HL.out.rise HL.out.mem).1
              have h2 := insert_any wx (HS3.out.store.non hk) (HT.out.keeps (HS3.out.keeps.trans hk fun _ h => h.elim)) ⟨#[fb n, 45, 49]⟩ (by show 3 ≤ _; omega) lg vg hrd hg.small.1 (by have := hg.small.2; omega) (cs.map nm) (.slice ra cs.length rc) (by rw [List.length_map]; exact HR.out.rd.non hk) (by rw [List.length_map]; omega) (fun r hr => by
                obtain ⟨a, ha, rfl⟩ := List.mem_map.1 hr
                show 3 ≤ _
                omega)
              have h3 : (⟨#[fb n, 45, 49]⟩ : ByteArray).data.toList = nm (fb n) := rfl
              rw [h3, h1] at h2
              exact h2
            have HPE : Hid (Pend w wr F (.slice na n nc) (.slice ra cs.length rc) (cs.map nm)) := HS2.out.pend HK.out (by rw [List.length_map]; exact HR.out)
            go_cut [108] (fun v wx => v = .bool false ∧ ∃ (F' : Nat → Prop) (lg : List Node), Grown lg ∧ Hid (SSt w wx F' st xb (putE L ⟨nm (fb n), lg, cs.map nm⟩) (namesOf n) RR (.slice na n nc) u8 xs) ∧ Hid (Pend w wx F' (.slice na n nc) (.slice ra cs.length rc) (cs.map nm)))
            case first =>
              have e2 : (0 : Int) ≤ (i : Int) + 1 := by omega
              have e3 : ((i : Int) + 1).toNat = i + 1 := by omega
              have e4 : (i : Int) + 1 < (s.size : Int) := by omega
              obtain ⟨d, hd⟩ : ∃ d : Nat, ((s[i + 1].toNat : Int) % 30) = (d : Int) := ⟨s[i + 1].toNat % 30, by omega⟩
              have hd29 : d ≤ 29 := by omega
              have hdt : (s[i + 1].toNat : Int).tmod 30 = (d : Int) := by rw [Int.tmod_eq_emod_of_nonneg (by omega)]; exact hd
              have e11 : IntKind.i64.wrap (d : Int) = (d : Int) := IntWalk.i64_in _ (by omega)
              have e5 : IntKind.i64.wrap ((i : Int) + (d : Int)) = (i : Int) + (d : Int) := IntWalk.i64_in _ (by omega)
              obtain ⟨m, hm⟩ : ∃ m : Nat, min (s.size : Int) ((i : Int) + (d : Int)) = (m : Int) := ⟨min s.size (i + d), by omega⟩
              have hm1 : i ≤ m := by omega
              have hm2 : m ≤ s.size := by omega
              have e6 : (i : Int) ≤ (m : Int) := by omega
              have e7 : (m : Int) ≤ (s.size : Int) := by omega
              have e8 : IntKind.i64.wrap (m : Int) = (m : Int) := IntWalk.i64_in _ (by omega)
              have e9 : IntKind.i64.wrap (i : Int) = (i : Int) := IntWalk.i64_in _ (by omega)
              have e10 : (0 : Int) ≤ (i : Int) := by omega
              have HG : Hid (∀ k : Nat, Calls Tryd.prog 21 #[.string (s.extract i m)] (wr.drewN k) (GrownPost (wr.drewN k))) := fun k => grown_any _ _ (by rw [ByteArray.size_extract]; omega)
              go_region_with (first
                | (go_at_call 21; refine (HG.out _).mono ?_; rintro ed w9 ⟨vg, lg, rfl, hg9, hs9, hk9⟩; obtain ⟨ga, gc, rfl, -, -⟩ := hs9.shape; have cx9 : w9.cell? ⟨xb, 0, none⟩ = some (.pointer (some ⟨st, 0, none⟩)) := (HS3.out.box.keeps hk9.of_drewN (fun h => h)).cell 0)
                | (go_at_call 20; refine (HINS.out _ _ _ hg9 (by first | exact hs9.rd | exact hs9.rd.non ((Keeps.refl _ _).drewN _)) (by first | exact hk9.of_drewN | exact hk9.of_drewN.drewN _)).mono ?_; rintro ed w10 ⟨rfl, hst10, hk10⟩))
              all_goals (go_wp2_with fail)
              all_goals go_meet
              all_goals (
                have hk9' : Keeps Non wr w9 := hk9.of_drewN
                obtain ⟨F', hst, hF'⟩ := hst10
                have h5 := HS3.out.non hk9'
                have h6 := HPE.out.non hk9'
                exact ⟨rfl, F', lg, hg9, h5.ins hst hF' hk10, h6.ins hF' hk10⟩)
            case rest =>
              obtain ⟨rfl, F', lg, hg, HS9, HP9⟩ := hcut
              obtain ⟨va, vc, rfl, -, -⟩ := HS9.out.outer.shape
              have HFN := Lib.hid (HFI.out.step h10 hg.good HL.out.rise HL.out.mem).2
              have hrr : RR.length ≤ 10 := by rw [HFI.out.rr]; omega
              obtain ⟨i0, hi, hi0, hi1, hi2'⟩ := info_parts infoStr
              obtain ⟨i1, hj, hj0, hj1, hj2⟩ := info_parts infoStrs
              have hsl := HS9.out.names
              rw [hnl] at hsl
              have hsz := HS9.out.keeps.size
              clear HFI HINS HS3 HS2 HL HR HK HPE hg cx
              go_wp2_with (at_builtin; refine wpList_append_own2 rfl _ _ 31 31 rfl 9 i0 _ 1 16 Tryd.underlying31 hi hi0 hi1 hi2' rfl w.heap.size _ _ _ rfl _ rfl 1 (svs [nm (fb n)]) ?c1 (hsl.alloc _) ?c2 ?c3 ?c4 ?_)
              case c1 => simp; omega
              case c2 => exact Src.ofSl Tryd.underlying31 (Sl.of_new wc 0 (Nat.zero_le _) 9 1 1 [.string ⟨#[fb n, 45, 49]⟩] rfl (by simp [maxLen])) (by intro u hu; simp only [svs, sv, List.map, List.mem_cons, List.not_mem_nil, or_false] at hu; subst hu; rfl)
              case c3 => unfold maxLen; omega
              case c4 => omega
              intro ao cc w8 hs8 hk8 hkk8 hb8
              have hboth := HS9.out.name (x := nm (fb n)) HP9.out (by rw [hnl]; exact hs8) hkk8 (by simpa using hb8)
              have HS8 := Lib.hid hboth.1
              have HP8 := Lib.hid hboth.2
              clear hboth hs8 hk8 hkk8 hb8 hsl hsz HS9 HP9 hi hi0 hi1 hi2'
              have hsl := HS8.out.outer
              have hsz := HS8.out.keeps.size
              go_wp2_with (at_builtin; refine wpList_append_own2 rfl _ _ 32 32 rfl 31 i1 _ 1 24 Tryd.underlying32 hj hj0 hj1 hj2 rfl w.heap.size _ _ _ rfl _ rfl 1 [.slice ra cs.length rc] ?c1 (hsl.alloc _) ?c2 ?c3 ?c4 ?_)
              case c1 => simp; omega
              case c2 => exact Src.ofSl Tryd.underlying32 (Sl.of_new w8 0 (Nat.zero_le _) 31 1 1 [.slice ra cs.length rc] rfl (by simp [maxLen])) (by intro u hu; simp only [List.mem_cons, List.not_mem_nil, or_false] at hu; subst hu; rfl)
              case c3 => unfold maxLen; omega
              case c4 => omega
              intro bo bc w9 hs9 hk9 hkk9 hb9
              have HS10 := Lib.hid (HS8.out.ref HP8.out hs9 hkk9 (by simpa using hb9))
              rw [← namesOf_succ] at HS10
              have HI : Hid (i + 2 = 2 * (n + 1)) := by have := hi2.out; show _ = _; omega
              clear hs9 hk9 hkk9 hb9 hsl hsz HS8 HP8 hj hj0 hj1 hj2
              go_wp2_with fail
              go_roundg (11 - (n + 1))
              case measure => omega
              case rel => exact ⟨n + 1, i + 2, F', _, _, _, rfl, by omega, HI, by omega, by go_num, HFN, HS10⟩
      · have d2 : decide ((n : Int) < 10) = false := by simp; omega
        have h0 : Hid (0 < n) := by show _ < _; omega
        obtain ⟨va, vc, rfl, -, -⟩ := HS.out.outer.shape
        go_wp2_with fail
        refine bodyPost_ret (v := .tuple #[.pointer (some ⟨xb, 0, none⟩), .slice na n nc, .slice va RR.length vc, .bool true]) (by simp [results, Tryd.results10, go_sem]) rfl ?_
        exact ⟨n, xb, st, F, L, RR, _, _, xs, rfl, h0.out, HFI.out, HS.out⟩
    · have d1 : decide ((i : Int) + 1 < (s.size : Int)) = false := by simp; omega
      have h0 : Hid (0 < n) := by have := hi2.out; show _ < _; omega
      obtain ⟨va, vc, rfl, -, -⟩ := HS.out.outer.shape
      go_wp2_with fail
      refine bodyPost_ret (v := .tuple #[.pointer (some ⟨xb, 0, none⟩), .slice na n nc, .slice va RR.length vc, .bool true]) (by simp [results, Tryd.results10, go_sem]) rfl ?_
      exact ⟨n, xb, st, F, L, RR, _, _, xs, rfl, h0.out, HFI.out, HS.out⟩
end Go.Proofs.YtohbjbicmgnblaaDoor
