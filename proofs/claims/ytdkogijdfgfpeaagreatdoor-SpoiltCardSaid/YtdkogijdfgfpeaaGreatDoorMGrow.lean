/- narkeep.grown, pick: the walks. -/
import Derived.Test.YtdkogijdfgfpeaaGreatDoorMGrown
import Derived.Test.YtdkogijdfgfpeaaGreatDoorMMap
set_option linter.unusedVariables false
namespace Go.Proofs.YtdkogijdfgfpeaaGreatDoor
open Go Go.RowKit
def GrownPost (w : World) (e : Ending) (w' : World) : Prop := ∃ (v : Value) (l : List Node), e = .returned v ∧ Grown l ∧ Sl w' w.heap.size 49 3 v l.length (nodeCells l) ∧ Keeps Non w w'
def ivs (l : List Int) : List Value := l.map (Value.int .i64)
structure GrS (W : World) (vl va vz : Value) (l : List Node) (above : List (List UInt8)) (last : List Int) (w : World) : Prop where
 sl : Sl w W.heap.size 49 3 vl l.length (nodeCells l)
 sa : Sl w W.heap.size 9 1 va above.length (svs above)
 sz : Sl w W.heap.size 3 1 vz last.length (ivs last)
 inv : ∃ st, GInv l above last st
 kp : Keeps Non W w
section
variable {W w w' : World} {vl va vz : Value} {l : List Node} {above : List (List UInt8)} {last : List Int}
theorem GrS.below (h : GrS W vl va vz l above last w) (k : Below w.heap.size w w') : GrS W vl va vz l above last w' :=
 ⟨h.sl.below k, h.sa.below k, h.sz.below k, h.inv, h.kp.trans (Keeps.of_below k (fun k hk _ => hk)) (fun k hk => .inl hk)⟩
theorem GrS.drewN (h : GrS W vl va vz l above last w) (n : Nat) : GrS W vl va vz l above last (w.drewN n) := ⟨h.sl, h.sa, h.sz, h.inv, h.kp.drewN n⟩
end
structure GrM (W : World) (vl va vz : Value) (l : List Node) (above : List (List UInt8)) (last : List Int) (w : World) : Prop where
 sl : Sl w W.heap.size 49 3 vl l.length (nodeCells l)
 sa : Sl w W.heap.size 9 1 va above.length (svs above)
 sz : Sl w W.heap.size 3 1 vz last.length (ivs last)
 kp : Keeps Non W w
theorem GrM.below {W w w' : World} {vl va vz : Value} {l : List Node} {above : List (List UInt8)} {last : List Int} (h : GrM W vl va vz l above last w) (k : Below w.heap.size w w') : GrM W vl va vz l above last w' :=
 ⟨h.sl.below k, h.sa.below k, h.sz.below k, h.kp.trans (Keeps.of_below k (fun k hk _ => hk)) (fun k hk => .inl hk)⟩
theorem keepsTo {W w w' : World} {Ts : List TypeId} (h : Keeps Non W w) (k : Kp W.heap.size Ts w w') : Keeps Non W w' :=
 Keeps.of_below ((h.below (Nat.le_refl _) (fun _ _ h => h)).trans (k.below h.size)) (fun k hk _ => hk)
theorem GrM.setX {W w : World} {vl va vz : Value} {l : List Node} {above : List (List UInt8)} {last : List Int} {bx : Nat} {c : Array Value} (h : GrM W vl va vz l above last w) (hb : Blk w bx c 49) (hB : W.heap.size ≤ bx) (hn : ∀ b, vl.ownBlock = some b → b ≠ bx) (j : Nat) (v : Value) :
 GrM W vl va vz l above last (w.setCell ⟨bx, j, none⟩ v) :=
 ⟨h.sl.keep fun b c' ho _ hbb => hbb.set_ne _ _ (hn b ho), h.sa.keep fun b c' ho _ hbb => hbb.set_ne _ _ (fun e => by simp only at e; subst e; exact absurd (hb.inj hbb).2 (by decide)),
  h.sz.keep fun b c' ho _ hbb => hbb.set_ne _ _ (fun e => by simp only at e; subst e; exact absurd (hb.inj hbb).2 (by decide)), h.kp.setCell _ _ (.inr hB)⟩
theorem infoInt : (Tryz.prog.info? 3).map (fun i => (i.zero, i.size, i.bytes)) = some (some (.int .i64 0), 1, 8) := by kernel_rfl
theorem infoNode' : (Tryz.prog.info? 49).map (fun i => (i.zero, i.size, i.bytes)) = some (some (.agg #[.string ⟨#[]⟩, .int .i64 0, .string ⟨#[]⟩]), 3, 40) := by kernel_rfl
set_option maxHeartbeats 4000000 in
set_option maxRecDepth 100000 in
theorem grown_any (s : ByteArray) (w : World) (hs : s.size ≤ 1000000) :
 Calls Tryz.prog 34 #[.string s] w (GrownPost w) := by
 have kc := fun (w : World) (n : Int) => run_string_one (P := Tryz.prog) 45 5 Tryz.underlying45 Tryz.underlying5 9 Tryz.underlying9 5 w n
 by_cases h3 : s.size < 3
 ·go_enter Tryz.func34, Tryz.ntmps34
  go_wp2_with fail
  go_ret
  have hlen : s.data.toList.length ≤ 2 := by rw [dlen]; omega
  exact ⟨_, [⟨[], 1, s.data.toList⟩], rfl, Grown.leaf _ hlen, Sl.of_new w w.heap.size (Nat.le_refl _) 49 3 1 _ rfl (by simp [maxLen]), (Keeps.refl _ _).alloc _⟩
 ·go_enter Tryz.func34, Tryz.ntmps34
  go_wp2_with fail
  have hst : Hid (GrS w (.slice (some ⟨w.heap.size, 0, none⟩) 1 1) (.slice (some ⟨w.heap.size + 1, 0, none⟩) 1 1) (.slice (some ⟨w.heap.size + 1 + 1, 0, none⟩) 1 1) [⟨[], 4, []⟩] [[]] [-1]
   (((w.alloc (.cells #[.string ⟨#[]⟩, .int .i64 4, .string ⟨#[]⟩] 49)).alloc (.cells #[.string ⟨#[]⟩] 9)).alloc (.cells #[.int .i64 (-1)] 3))) := by
   refine ⟨((Sl.of_new w w.heap.size (Nat.le_refl _) 49 3 1 (nodeCells [⟨[], 4, []⟩]) rfl (by simp [maxLen])).alloc _).alloc _, ?_, ?_, ⟨_, GInv.root 4 [] rfl rfl⟩, (((Keeps.refl _ _).alloc _).alloc _).alloc _⟩
   ·have := (Sl.of_new (w.alloc (.cells #[.string ⟨#[]⟩, .int .i64 4, .string ⟨#[]⟩] 49)) w.heap.size (by simp) 9 1 1 [.string ⟨#[]⟩] rfl (by simp [maxLen])).alloc (.cells #[.int .i64 (-1)] 3)
    simpa [svs, sv] using this
   ·have := Sl.of_new ((w.alloc (.cells #[.string ⟨#[]⟩, .int .i64 4, .string ⟨#[]⟩] 49)).alloc (.cells #[.string ⟨#[]⟩] 9)) w.heap.size (by simp; omega) 3 1 1 [.int .i64 (-1)] rfl (by simp [maxLen])
    simpa [ivs] using this
  go_loopg [3, 4, 5, 6] s.size (fun gk vl va vz vi wr => ∃ (i : Nat) (l : List Node) (above : List (List UInt8)) (last : List Int), gk = s.size - i ∧ vi = .int .i64 i ∧ i ≤ s.size + 3 ∧ Hid (GrS w vl va vz l above last wr))
  case atStart => exact ⟨0, _, _, _, rfl, rfl, by omega, hst⟩
  case round =>
   clear hst
   obtain ⟨i, l, above, last, rfl, rfl, hi, HG⟩ := hrel
   obtain ⟨al, cl, rfl, hl1, hl2⟩ := HG.out.sl.shape
   obtain ⟨aa, ca, rfl, ha1, ha2⟩ := HG.out.sa.shape
   obtain ⟨az, cz, rfl, hz1, hz2⟩ := HG.out.sz.shape
   unfold maxLen at hl2 ha2 hz2
   by_cases hi2 : i + 2 < s.size
   ·by_cases hl30 : l.length < 30
    ·have hd1 : decide ((i : Int) + 2 < (s.size : Int)) = true := by simp; omega
     have hd2 : decide ((l.length : Int) < 30) = true := by simp; omega
     have q1 : (0 : Int) ≤ (i : Int) := by omega
     have q2 : (i : Int) < (s.size : Int) := by omega
     have q3 : i < s.size := by omega
     go_upto_block 1 with (fail)
     go_cut [3, 4, 5] (fun vl va vz wx => ∃ (l' : List Node) (above' : List (List UInt8)) (last' : List Int), Hid (GrS w vl va vz l' above' last' wx))
     case first =>
      have hz3 : s[i].toNat % 3 ≤ 2 := by omega
      obtain ⟨z, hz⟩ : ∃ z : Nat, ((s[i].toNat : Int) % 3) = (z : Int) := ⟨s[i].toNat % 3, by omega⟩
      have hz2' : z ≤ 2 := by omega
      go_wp2_with fail
      go_loopg [4, 5, 7] z (fun gz va vz zz wq => ∃ (above' : List (List UInt8)) (last' : List Int), zz = .int .u8 gz ∧ gz ≤ 2 ∧ Hid (GrS w (.slice al l.length cl) va vz l above' last' wq))
      case atStart => exact ⟨above, last, by rw [hz], hz2', HG⟩
      case round =>
       clear HG hz1 hz2 ha1 ha2 hz
       obtain ⟨above, last, rfl, hgz, HG⟩ := hrel
       obtain ⟨aa, ca, rfl, ha1, ha2⟩ := HG.out.sa.shape
       obtain ⟨az, cz, rfl, hz1, hz2⟩ := HG.out.sz.shape
       unfold maxLen at ha2 hz2
       have HL : Hid (above.length = last.length) := HG.out.inv.elim fun _ h => h.len
       have hlen1 : above.length ≤ last.length := Nat.le_of_eq HL.out
       have hlen2 : last.length ≤ above.length := Nat.le_of_eq HL.out.symm
       have hpos : 0 < above.length := HG.out.inv.elim fun _ h => h.pos
       go_upto_region 10 with (fail)
       go_cut [44] (fun c wx => wr = wx ∧ ((c = .bool true ∧ 1 < gk ∧ 1 < above.length) ∨ c = .bool false))
       case first =>
        by_cases h1 : 1 < gk
        ·have hd3 : decide ((1 : Int) < (gk : Int)) = true := by simp; omega
         by_cases h2 : 1 < above.length
         ·have hd4 : decide ((1 : Int) < (above.length : Int)) = true := by simp; omega
          go_wp2_with fail
          go_meet
          exact ⟨rfl, .inl ⟨rfl, h1, h2⟩⟩
         ·have hd4 : decide ((1 : Int) < (above.length : Int)) = false := by simp; omega
          go_wp2_with fail
          go_meet
          exact ⟨rfl, .inr rfl⟩
        ·have hd3 : decide ((1 : Int) < (gk : Int)) = false := by simp; omega
         go_wp2_with fail
         go_meet
         exact ⟨rfl, .inr rfl⟩
       case rest =>
        obtain ⟨rfl, ⟨rfl, hc⟩ | rfl⟩ := hcut
        ·skip
         have HG2 : Hid (GrS w (.slice al l.length cl) (.slice aa (above.length - 1) ca) (.slice az (last.length - 1) cz) l (above.take (above.length - 1)) (last.take (above.length - 1)) wr) := by
          obtain ⟨st, hi⟩ := HG.out.inv
          refine ⟨HG.out.sl, ?_, ?_, ⟨st, hi.pop hc.2⟩, HG.out.kp⟩
          ·have := HG.out.sa.take (m := above.length - 1) (by omega)
           simpa [svs, List.map_take, Nat.min_eq_left (by omega : above.length - 1 ≤ above.length)] using this
          ·have := HG.out.sz.take (m := last.length - 1) (by omega)
           rw [HL.out]
           simpa [ivs, List.map_take, Nat.min_eq_left (by omega : last.length - 1 ≤ last.length)] using this
         have hl2' : 1 < last.length := by omega
         obtain ⟨hc1, hc2⟩ := hc
         go_wp2_with fail
         go_roundg (gk - 1)
         case measure => omega
         case rel => exact ⟨above.take (above.length - 1), last.take (above.length - 1), by go_num, by omega, HG2⟩
        ·obtain ⟨t, ht⟩ : ∃ t, above.length = t + 1 := ⟨above.length - 1, by omega⟩
         have hq : (above.length : Int) - 1 = (t : Int) := by omega
         have HTL := Lib.hid ht
         have ht1 : t < above.length := by omega
         have ht2 : t < last.length := by omega
         clear ht
         go_wp2_with fail
         obtain ⟨bz, oz, cz', hsh, hBz, -, -, hltz, hcz, hfz⟩ := HG.out.sz.pos (by omega)
         cases hsh
         obtain ⟨ba, oa, ca', hsh, hBa, -, -, hlta, hca, -⟩ := HG.out.sa.pos (by omega)
         cases hsh
         have c0 : wr.cell? ⟨bz, oz + t, none⟩ = some (.int .i64 last[t]) := by rw [hcz t (by omega)]; simp [ivs, List.getElem?_eq_getElem ht2]
         have hlo : -1 ≤ last[t] ∧ last[t] ≤ 25 := by
          obtain ⟨st, hi⟩ := HG.out.inv
          obtain ⟨-, h⟩ := hi.at' t ht1 ht2 (by have := hi.le; omega)
          rcases h with ⟨-, h⟩ | ⟨n, -, h, h2, -⟩ <;> omega
         have HLT : Hid (last[t]? = some last[t]) := List.getElem?_eq_getElem ht2
         generalize last[t] = lz at *
         obtain ⟨hlo1, hlo2⟩ := hlo
         have hi1 : i + 1 < s.size := by omega
         obtain ⟨y, hy⟩ : ∃ y : Nat, ((s[i + 1].toNat : Int) % 3) = (y : Int) := ⟨s[i + 1].toNat % 3, by omega⟩
         have hy2 : y ≤ 2 := by omega
         have e1 : IntKind.i64.wrap ((i : Int) + 1) = (i : Int) + 1 := IntWalk.i64_in _ (by omega)
         have e2 : (0 : Int) ≤ (i : Int) + 1 := by omega
         have e3 : ((i : Int) + 1).toNat = i + 1 := by omega
         have e4 : (i : Int) + 1 < (s.size : Int) := by omega
         have e5 : IntKind.i64.wrap (lz + 1) = lz + 1 := IntWalk.i64_in _ (by omega)
         obtain ⟨n, hn⟩ : ∃ n : Nat, lz + 1 + (y : Int) = (n : Int) := ⟨(lz + 1 + y).toNat, by omega⟩
         have e6 : IntKind.i64.wrap (lz + 1 + y) = (n : Int) := by rw [IntWalk.i64_in _ (by omega)]; omega
         have e7 : (0 : Int) ≤ (t : Int) := by omega
         have e8 : (t : Int) < (last.length : Int) := by omega
         have f0 : wr.frozen? ⟨bz, oz + t, none⟩ = false := hfz _
         have hlz : lz < (n : Int) := by omega
         have hn27 : n ≤ 28 := by omega
         clear hcz hca hfz
         by_cases h25 : 25 < n
         ·have hd6 : decide ((25 : Int) < (n : Int)) = true := by simp; omega
          go_quiet (fail)
          go_wp2_with fail
          go_meet
          exact ⟨l, above, last, HG.out.drewN _⟩
         ·have hd6 : decide ((25 : Int) < (n : Int)) = false := by simp; omega
          go_quiet (fail)
          go_upto_region 18 with (fail)
          have HM : Hid (GrM w (.slice al l.length cl) (.slice (some ⟨ba, oa, none⟩) above.length ca) (.slice (some ⟨bz, oz, none⟩) last.length cz) l above (last.set t n) ((wr.drewN nq).setCell ⟨bz, oz + t, none⟩ (.int .i64 n))) := by
           have hset := (HG.out.sz.drewN nq).set t (by omega) (.int .i64 n)
           obtain ⟨c, hb, hB⟩ := (HG.out.sz.drewN nq).blk
           have k : Kp w.heap.size [3] (wr.drewN nq) ((wr.drewN nq).setCell ⟨bz, oz + t, none⟩ (.int .i64 n)) := (Kp.refl _ _ _).set hb (.inr ⟨hB, by simp⟩) _ _
           exact ⟨(HG.out.sl.drewN nq).kp k (.inl (by decide)), (HG.out.sa.drewN nq).kp k (.inl (by decide)), by simpa [ivs, List.map_set] using hset, (HG.out.kp.drewN nq).setCell _ _ (.inr hBz)⟩
          have HINV : Hid (∃ st, GInv l above last st) := HG.out.inv
          have hlt2 : ba < ((wr.drewN nq).setCell ⟨bz, oz + t, none⟩ (.int .i64 n)).heap.size := by simpa [World.setCell, World.drewN] using hlta
          generalize (wr.drewN nq).setCell ⟨bz, oz + t, none⟩ (.int .i64 n) = w1 at *
          have e9 : ((97 : Int) + (n : Int)).toNat = 97 + n := by omega
          clear c0 f0 HG e1 e5 e6 hq hy hn hltz hlta e7 e8
          go_upto_if 88 with (fail)
          generalize hw2 : w1.alloc (.cells #[.int .u8 (97 + (n : Int))] 5) = w2 at *
          have HM2 : Hid (GrM w (.slice al l.length cl) (.slice (some ⟨ba, oa, none⟩) above.length ca) (.slice (some ⟨bz, oz, none⟩) last.length cz) l above (last.set t n) w2) := by
           rw [← hw2]; exact HM.out.below ((Below.refl _ _).alloc (Nat.le_refl _) _)
          clear hw2 HM
          have HA : Hid ((97 : UInt8) + UInt8.ofNat n = UInt8.ofNat (97 + n)) := by show _ = _; rw [UInt8.ofNat_add]; rfl
          rw [HA.out]
          generalize hch : UInt8.ofNat (97 + n) = ch at *
          have HCH := Lib.hid hch
          clear hch HA
          go_cut [10] (fun nm wx => ∃ suf : List UInt8, nm = .string ⟨(ch :: suf).toArray⟩ ∧ (suf = [] ∨ suf = [206, 177, 32, 120]) ∧ w2 = wx)
          case first =>
           by_cases h5 : s[i + 1].toNat % 5 = 0
           ·have hb5 : (((s[i + 1].toNat : Int) % 5) == 0) = true := by rw [beq_iff_eq]; omega
            have hsz1 : (⟨#[ch]⟩ : ByteArray).size ≤ 1 := Nat.le_refl 1
            go_wp2_with fail
            go_meet
            exact ⟨[206, 177, 32, 120], rfl, .inr rfl, rfl⟩
           ·have hb5 : (((s[i + 1].toNat : Int) % 5) == 0) = false := by rw [beq_eq_false_iff_ne]; omega
            go_wp2_with fail
            go_meet
            exact ⟨[], rfl, .inl rfl, rfl⟩
          case rest =>
           obtain ⟨suf, rfl, hsuf, rfl⟩ := hcut
           have HSUF := Lib.hid hsuf
           have hnl : (ch :: suf).length ≤ 5 := by rcases hsuf with rfl | rfl <;> simp
           clear hsuf
           have HNAME : Hid (nameB (ch :: suf) = true) := by rw [← HCH.out]; exact name_grown n (by omega) suf HSUF.out
           obtain ⟨d, hd⟩ : ∃ d, above[t] = d := ⟨_, rfl⟩
           have hdl : d.length ≤ 30 := by
            obtain ⟨st, hi⟩ := HINV.out
            have := (hi.nul t ht1).2.1
            have := hi.le5
            rw [← hd]; omega
           have ca0 : w2.cell? ⟨ba, oa + t, none⟩ = some (.string ⟨d.toArray⟩) := by
            obtain ⟨b', o', c', hsh, -, -, -, -, hca, -⟩ := HM2.out.sa.pos (by omega)
            cases hsh
            rw [hca t (by omega)]
            simp [svs, sv, List.getElem?_eq_getElem ht1, hd]
           have HD := Lib.hid hd
           clear hd
           have e7 : (0 : Int) ≤ (t : Int) := by omega
           have e8 : (t : Int) < (above.length : Int) := by omega
           go_upto_if 95 with (fail)
           go_cut [10] (fun nm wx => nm = .string ⟨(joinP d (ch :: suf)).toArray⟩ ∧ w2 = wx)
           case first =>
            by_cases hde : d = []
            ·subst hde
             have HJ : Hid (joinP [] (ch :: suf) = ch :: suf) := by show _ = _; rw [joinP, if_pos rfl]
             go_wp2_with fail
             go_meet
             exact ⟨by rw [HJ.out], rfl⟩
            ·have hb1 : (!d.isEmpty) = true := by cases d <;> simp at hde ⊢
             have hb2 : d.isEmpty = false := by cases d <;> simp at hde ⊢
             have hsl : suf.length ≤ 4 := by simp at hnl; omega
             have HJ : Hid ((⟨d.toArray⟩ : ByteArray) ++ ⟨#[47]⟩ ++ ⟨(ch :: suf).toArray⟩ = ⟨(joinP d (ch :: suf)).toArray⟩) := by
              show _ = _
              rw [joinP, if_neg hde, show (⟨#[47]⟩ : ByteArray) = ⟨([47] : List UInt8).toArray⟩ from rfl, str_app, str_app, List.append_assoc, List.singleton_append]
             go_wp2_with fail
             ·go_meet
              exact ⟨congrArg Value.string HJ.out, rfl⟩
             ·exact absurd ‹(!d.isEmpty) = false› (by rw [hb1]; decide)
           case rest =>
            obtain ⟨rfl, rfl⟩ := hcut
            have hpl : (joinP d (ch :: suf)).length ≤ 36 := by unfold joinP; split <;> simp at hnl ⊢ <;> omega
            have hi3 : i + 2 < s.size := hi2
            have e10 : (0 : Int) ≤ (i : Int) + 2 := by omega
            have e11 : ((i : Int) + 2).toNat = i + 2 := by omega
            go_upto_block 4 with (fail)
            obtain ⟨kd, hkd⟩ : ∃ kd : Int, 1 + (s[i + 2].toNat : Int) % 4 = kd := ⟨_, rfl⟩
            have hkd4 : kd = 1 ∨ kd = 2 ∨ kd = 3 ∨ kd = 4 := by omega
            rw [hkd]
            generalize hP : joinP d (ch :: suf) = P at *
            have HP := Lib.hid hP
            clear hkd hP ca0
            have hnb : ∀ b, (Value.slice al l.length cl).ownBlock = some b → b ≠ w2.heap.size := by
             intro b hb
             have : ∃ c, Blk w2 b c 49 := by
              obtain ⟨-, ⟨h1, -⟩ | ⟨b', o', c', cc, h1, -, h2, -⟩⟩ := HM2.out.sl
              ·rw [h1] at hb; cases hb
              ·rw [h1] at hb; cases hb; exact ⟨cc, h2⟩
             obtain ⟨c, hc⟩ := this
             exact Nat.ne_of_lt hc.lt
            have HNB := Lib.hid hnb
            obtain ⟨w3, hw3⟩ : ∃ w3, w2.alloc (.cells #[.string ⟨P.toArray⟩, .int .i64 kd, .string ⟨#[]⟩] 49) = w3 := ⟨_, rfl⟩
            have HBX : Hid (Blk w3 w2.heap.size #[.string ⟨P.toArray⟩, .int .i64 kd, .string ⟨#[]⟩] 49) := by rw [← hw3]; exact Blk.new _ _ _
            have HM3 : Hid (GrM w (.slice al l.length cl) (.slice (some ⟨ba, oa, none⟩) above.length ca) (.slice (some ⟨bz, oz, none⟩) last.length cz) l above (last.set t n) w3) := by
             rw [← hw3]; exact HM2.out.below ((Below.refl _ _).alloc (Nat.le_refl _) _)
            have HWX : Hid (w.heap.size ≤ w2.heap.size) := HM2.out.kp.size
            rw [hw3]
            clear hw3 HM2 hnb
            generalize w2.heap.size = bx at *
            have ha5 : above.length ≤ 5 := HINV.out.elim fun _ h => h.le5
            go_cut [4, 5] (fun va vz wx => ∃ (kd' : Int) (above' : List (List UInt8)) (last' : List Int), (kd' = 1 ∨ kd' = 2 ∨ kd' = 3 ∨ kd' = 4) ∧ Hid (kd' = 4 → above.length ≤ 4) ∧ Hid (above' = if kd' = 4 then above ++ [P] else above) ∧ Hid (last' = if kd' = 4 then last.set t n ++ [-1] else last.set t n) ∧
             Hid (GrM w (.slice al l.length cl) va vz l above' last' wx) ∧ Hid (Blk wx bx #[.string ⟨P.toArray⟩, .int .i64 kd', .string ⟨#[]⟩] 49))
            case first =>
             have n1 : w3.cell? ⟨bx, 1, none⟩ = some (.int .i64 kd) := HBX.out.cell 1
             have f1 : w3.frozen? ⟨bx, 1, none⟩ = false := HBX.out.free 1
             by_cases h4 : kd = 4
             ·have hb4 : (kd == 4) = true := by rw [h4]; rfl
              by_cases h44 : 4 < above.length
              ·have hd7 : decide ((4 : Int) < (above.length : Int)) = true := by simp; omega
               clear h4
               go_wp2_with fail
               go_meet
               refine ⟨1, above, last.set t n, .inl rfl, (fun h => by cases h), rfl, rfl, HM3.out.setX HBX.out HWX.out HNB.out _ _, ?_⟩
               exact HBX.out.set 1 _
              ·have hd7 : decide ((4 : Int) < (above.length : Int)) = false := by simp; omega
               obtain ⟨i1, hs0, hs1, hs2, hs3⟩ := info_parts infoStr
               obtain ⟨i2, hs4, hs5, hs6, hs7⟩ := info_parts infoInt
               have H44 : Hid (above.length ≤ 4) := by show _ ≤ _; omega
               have HKD := Lib.hid h4
               clear h4
               go_wp2_with (at_builtin; refine wpList_append_sl rfl _ _ 26 26 rfl 9 i1 (.string ⟨#[]⟩) 1 16 Tryz.underlying26 hs0 hs1 hs2 hs3 rfl w.heap.size _ _ _ rfl _ rfl 1 [.string ⟨P.toArray⟩] ?a1 (HM3.out.sa.alloc _) ?a2 ?a3 ?a4 ?_)
               case a1 => have := HM3.out.kp.size; simp; omega
               case a2 => exact Src.ofSl Tryz.underlying26 (Sl.of_new w3 0 (Nat.zero_le _) 9 1 1 [.string ⟨P.toArray⟩] rfl (by simp [maxLen])) (by simp [Value.oneCell'])
               case a3 => unfold maxLen; omega
               case a4 => omega
               intro va' w4 hsa4 hk4 hb4
               clear hb4
               have hk3a : Keeps Non w (w3.alloc (.cells #[.string ⟨P.toArray⟩] 9)) := HM3.out.kp.alloc _
               have HM4 : Hid (Sl w4 w.heap.size 49 3 (.slice al l.length cl) l.length (nodeCells l) ∧ Sl w4 w.heap.size 3 1 (.slice (some ⟨bz, oz, none⟩) last.length cz) (last.set t (n : Int)).length (ivs (last.set t n)) ∧ Keeps Non w w4 ∧ Blk w4 bx #[.string ⟨P.toArray⟩, .int .i64 kd, .string ⟨#[]⟩] 49) :=
                ⟨(HM3.out.sl.alloc _).kp hk4 (.inl (by decide)), (HM3.out.sz.alloc _).kp hk4 (.inl (by decide)), keepsTo hk3a hk4, (HBX.out.alloc _).kp hk4 (.inr (by decide))⟩
               have HSA4 : Hid (Sl w4 w.heap.size 9 1 va' (above ++ [P]).length (svs (above ++ [P]))) := by
                show Sl _ _ _ _ _ _ _
                simpa [svs, sv] using hsa4
               obtain ⟨aa', ca', rfl, -, -⟩ := hsa4.shape
               clear hsa4 hk4 hk3a HBX HM3 n1 f1 hs0 hs1 hs2 hs3
               have hlz5 : last.length ≤ 5 := by have := HINV.out.elim fun _ h => h.len; omega
               go_wp2_with (at_builtin; refine wpList_append_sl rfl _ _ 65 65 rfl 3 i2 (.int .i64 0) 1 8 Tryz.underlying65 hs4 hs5 hs6 hs7 rfl w.heap.size (.slice (some ⟨bz, oz, none⟩) last.length cz) last.length (ivs (last.set t n)) rfl _ rfl 1 [.int .i64 (-1)] ?b1 ?b5 ?b2 ?b3 ?b4 ?_)
               case b1 => have := HM4.out.2.2.1.size; simp; omega
               case b5 => have := HM4.out.2.1; rw [List.length_set] at this; exact this.alloc _
               case b2 => exact Src.ofSl Tryz.underlying65 (Sl.of_new w4 0 (Nat.zero_le _) 3 1 1 [.int .i64 (-1)] rfl (by simp [maxLen])) (by simp [Value.oneCell'])
               case b3 => unfold maxLen; omega
               case b4 => omega
               intro vz' w5 hsz5 hk5 hb5
               clear hb5
               have HM5 : Hid (GrM w (.slice al l.length cl) (.slice aa' (above.length + 1) ca') vz' l (above ++ [P]) (last.set t n ++ [-1]) w5) := by
                refine ⟨(HM4.out.1.alloc _).kp hk5 (.inl (by decide)), ?_, by simpa [ivs] using hsz5, keepsTo (HM4.out.2.2.1.alloc _) hk5⟩
                exact (HSA4.out.alloc _).kp hk5 (.inl (by decide))
               have HBX5 : Hid (Blk w5 bx #[.string ⟨P.toArray⟩, .int .i64 kd, .string ⟨#[]⟩] 49) := (HM4.out.2.2.2.alloc _).kp hk5 (.inr (by decide))
               obtain ⟨az', cz'', rfl, -, -⟩ := hsz5.shape
               clear hsz5 hk5 hs4 hs5 hs6 hs7 HM4 HSA4
               go_wp2_with fail
               go_meet
               refine ⟨4, above ++ [P], last.set t n ++ [-1], .inr (.inr (.inr rfl)), fun _ => H44.out, rfl, rfl, HM5, ?_⟩
               rw [← HKD.out]
               exact HBX5
             ·have hb4 : (kd == 4) = false := by rw [beq_eq_false_iff_ne]; exact h4
              have HK4 : Hid (kd = 1 ∨ kd = 2 ∨ kd = 3 ∨ kd = 4) := hkd4
              have HKN := Lib.hid h4
              clear hkd4 h4
              go_wp2_with fail
              go_meet
              exact ⟨kd, above, last.set t n, HK4.out, fun h => absurd h HKN.out, by show _ = _; rw [if_neg HKN.out], by show _ = _; rw [if_neg HKN.out], HM3, HBX⟩
            case rest =>
             clear HM3 HBX hkd4
             obtain ⟨kd, above', last', hkd4, HK4, HAB, HLA, HM, HBX⟩ := hcut
             obtain ⟨aa', ca', rfl, -, -⟩ := HM.out.sa.shape
             obtain ⟨az', cz'', rfl, -, -⟩ := HM.out.sz.shape
             have n1 : wc.cell? ⟨bx, 1, none⟩ = some (.int .i64 kd) := HBX.out.cell 1
             have n2 : wc.cell? ⟨bx, 2, none⟩ = some (.string ⟨#[]⟩) := HBX.out.cell 2
             have f2 : wc.frozen? ⟨bx, 2, none⟩ = false := HBX.out.free 2
             go_upto_if 135 with (fail)
             go_cut [] (fun wx => ∃ da : List UInt8, Hid (GrM w (.slice al l.length cl) (.slice aa' above'.length ca') (.slice az' last'.length cz'') l above' last' wx) ∧ Hid (Blk wx bx #[.string ⟨P.toArray⟩, .int .i64 kd, .string ⟨da.toArray⟩] 49) ∧ Hid (dataB kd da = true ∧ da.length ≤ 100))
             case first =>
              obtain ⟨r, hr⟩ : ∃ r : Nat, ((s[i].toNat : Int) % 3) = (r : Int) := ⟨s[i].toNat % 3, by omega⟩
              have hr2 : r ≤ 2 := by omega
              have e12 : ((i : Int) + (r : Int)).toNat = i + r := by omega
              have e13 : (0 : Int) ≤ (i : Int) + (r : Int) := by omega
              have e14 : (i : Int) ≤ (i : Int) + (r : Int) := by omega
              have e15 : (i : Int) + (r : Int) ≤ (s.size : Int) := by omega
              have e16 : i + r ≤ s.size := by omega
              have hxl : (s.extract i (i + r)).data.toList.length ≤ 2 := by rw [ext_list]; simp; omega
              have hx12 : ∀ k : Int, k = 1 ∨ k = 2 → dataB k (s.extract i (i + r)).data.toList = true := by
               intro k hk
               unfold dataB
               rw [if_neg (by omega), if_neg (by omega), if_pos hk]
               exact decide_eq_true (by omega)
              have HX12 := Lib.hid hx12
              have HXL := Lib.hid hxl
              clear hx12 hxl
              rcases hkd4 with rfl | rfl | rfl | rfl
              ·go_wp2_with fail
               go_meet
               exact ⟨(s.extract i (i + r)).data.toList, HM.out.setX HBX.out HWX.out HNB.out _ _, HBX.out.set 2 _, HX12.out 1 (.inl rfl), by have := HXL.out; omega⟩
              ·go_wp2_with fail
               go_meet
               exact ⟨(s.extract i (i + r)).data.toList, HM.out.setX HBX.out HWX.out HNB.out _ _, HBX.out.set 2 _, HX12.out 2 (.inr rfl), by have := HXL.out; omega⟩
              ·have HP0 : Hid ((0 : UInt8) ∉ P) := by
                show ¬ _
                obtain ⟨st, hi⟩ := HINV.out
                have h0 := (hi.nul t ht1).1
                rw [HD.out] at h0
                rw [← HP.out]
                have hc0 : (0 : UInt8) ∉ ch :: suf := by
                 simp only [List.mem_cons, not_or]
                 refine ⟨?_, by rcases HSUF.out with rfl | rfl <;> decide⟩
                 rw [← HCH.out]
                 intro e
                 have := congrArg UInt8.toNat e
                 simp at this
                 omega
                unfold joinP
                split
                ·exact hc0
                ·simp only [List.mem_append, List.mem_cons, not_or] at hc0 ⊢
                 exact ⟨h0, by decide, hc0⟩
               go_wp2_with fail
               go_meet
               rw [show (⟨#[46, 46, 47]⟩ : ByteArray) ++ ⟨P.toArray⟩ = ⟨([46, 46, 47] ++ P).toArray⟩ from str_app [46, 46, 47] P]
               refine ⟨[46, 46, 47] ++ P, (HM.out.setX HBX.out HWX.out HNB.out _ _).setX (HBX.out.set 2 _) HWX.out HNB.out _ _, (HBX.out.set 2 _).set 2 _, ?_, ?_⟩
               ·have h1 : Lib.indexByte ([46, 46, 47] ++ P) 0 < 0 := (idx_mem _ _).2 (by have := HP0.out; simp [this])
                unfold dataB
                rw [if_pos rfl, decide_eq_true h1, decide_eq_true (by simp; omega)]
                rfl
               ·simp; omega
              ·go_wp2_with fail
               go_meet
               exact ⟨[], HM, HBX, rfl, by simp⟩
             case rest =>
              clear HM HBX n1 n2 f2
              obtain ⟨da, HM, HBX, HDA⟩ := hcut
              have n0 : wc.cell? ⟨bx, 0, none⟩ = some (.string ⟨P.toArray⟩) := HBX.out.cell 0
              have n1 : wc.cell? ⟨bx, 1, none⟩ = some (.int .i64 kd) := HBX.out.cell 1
              have n2 : wc.cell? ⟨bx, 2, none⟩ = some (.string ⟨da.toArray⟩) := HBX.out.cell 2
              obtain ⟨i3, hs0, hs1, hs2, hs3⟩ := info_parts infoNode'
              have HK := Lib.hid hkd4
              clear hkd4
              go_wp2_with (at_builtin; refine wpList_append_sl rfl _ _ 50 50 rfl 49 i3 _ 3 40 Tryz.underlying50 hs0 hs1 hs2 hs3 rfl w.heap.size _ _ _ rfl _ rfl 1 (nodeCells [⟨P, kd, da⟩]) ?d1 (HM.out.sl.alloc _) ?d2 ?d3 ?d4 ?_)
              case d1 => have := HM.out.kp.size; simp; omega
              case d2 => exact Src.ofSl Tryz.underlying50 (Sl.of_new wc 0 (Nat.zero_le _) 49 3 1 (nodeCells [⟨P, kd, da⟩]) rfl (by simp [maxLen])) (nodeCells_one _)
              case d3 => unfold maxLen; omega
              case d4 => omega
              intro vl' w7 hsl7 hk7 hb7
              clear hb7
              have HG7 : Hid (GrS w vl' (.slice aa' above'.length ca') (.slice az' last'.length cz'') (l ++ [⟨P, kd, da⟩]) above' last' w7) := by
               refine ⟨?_, (HM.out.sa.alloc _).kp hk7 (.inl (by decide)), (HM.out.sz.alloc _).kp hk7 (.inl (by decide)), ?_, keepsTo (HM.out.kp.alloc _) hk7⟩
               ·rw [List.length_append, nodeCells_append]
                exact hsl7
               ·obtain ⟨st, hi⟩ := HINV.out
                have hsome : last[t]? = some last[t] := List.getElem?_eq_getElem ht2
                have hle : last[t] < (n : Int) := by
                 have h1 := HLT.out
                 rw [hsome] at h1
                 rw [Option.some.inj h1]
                 exact hlz
                have := hi.step t HTL.out.symm ht2 n suf hle (by omega) HSUF.out (by rw [HCH.out]; exact HNAME.out) kd da HK4.out HDA.out.1 HDA.out.2 hl30
                rw [HAB.out, HLA.out]
                rw [HD.out, HCH.out, HP.out] at this
                exact this
              obtain ⟨al', cl', rfl, -, -⟩ := hsl7.shape
              clear hsl7 hk7 hs0 hs1 hs2 hs3 n0 n1 n2
              go_wp2_with fail
              go_meet
              exact ⟨_, _, _, HG7⟩
     case rest =>
      obtain ⟨l', above', last', HG'⟩ := hcut
      clear HG
      go_wp2_with fail
      go_roundg (s.size - (i + 3))
      case measure => omega
      case rel => exact ⟨i + 3, l', above', last', rfl, by go_num, by omega, HG'⟩
    ·have hd1 : decide ((i : Int) + 2 < (s.size : Int)) = true := by simp; omega
     have hd2 : decide ((l.length : Int) < 30) = false := by simp; omega
     go_wp2_with fail
     go_ret
     exact ⟨_, l, rfl, HG.out.inv.elim fun _ h => h.grown, HG.out.sl, HG.out.kp⟩
   ·have hd1 : decide ((i : Int) + 2 < (s.size : Int)) = false := by simp; omega
    go_wp2_with fail
    go_ret
    exact ⟨_, l, rfl, HG.out.inv.elim fun _ h => h.grown, HG.out.sl, HG.out.kp⟩
def pickN (c n : Int) : Int := (if c < 0 then -(c + 1) else c) % n
set_option maxRecDepth 100000 in
theorem pick_any (c n : Int) (w : World) (hc1 : -9223372036854775808 ≤ c) (hc2 : c ≤ 9223372036854775807) (hn : 0 < n) (hn2 : n ≤ 1000000) :
 Calls Tryz.prog 17 #[.int .i64 c, .int .i64 n] w fun e w' => e = .returned (.int .i64 (pickN c n)) ∧ w = w' := by
 by_cases h : c < 0
 ·have HP : Hid (pickN c n = (-(c + 1)) % n) := by show _ = _; rw [pickN, if_pos h]
  have hz : ¬ n = 0 := by omega
  go_enter Tryz.func17, Tryz.ntmps17
  go_wp2_with fail
  go_ret
  exact ⟨int_ret (by rw [HP.out, ← Int.neg_tmod, Int.tmod_eq_emod_of_nonneg (by omega)]), rfl⟩
 ·have HP : Hid (pickN c n = c % n) := by show _ = _; rw [pickN, if_neg h]
  have h0 : 0 ≤ c := by omega
  have hz : ¬ n = 0 := by omega
  go_enter Tryz.func17, Tryz.ntmps17
  go_wp2_with fail
  go_ret
  exact ⟨int_ret HP.out.symm, rfl⟩
theorem pick_range (c n : Int) (hn : 0 < n) : ∃ k : Nat, pickN c n = k ∧ (k : Int) < n := by
 unfold pickN
 refine ⟨((if c < 0 then -(c + 1) else c) % n).toNat, ?_, ?_⟩
 ·rw [Int.toNat_of_nonneg (Int.emod_nonneg _ (by omega))]
 ·rw [Int.toNat_of_nonneg (Int.emod_nonneg _ (by omega))]
  exact Int.emod_lt_of_pos _ hn
theorem Grown.len {l : List Node} (h : Grown l) : 0 < l.length ∧ l.length ≤ 30 := by
 refine ⟨List.length_pos_iff.2 h.ne, ?_⟩
 have hw := h.good
 unfold wrongL at hw
 rw [if_neg h.ne] at hw
 have := wrong_len l 0 [] hw (by omega)
 omega
theorem sum_le (l : List Node) (c : Nat) (h : ∀ x ∈ l, x.path.length + x.data.length ≤ c) : (l.map fun x => x.path.length + x.data.length).sum ≤ c * l.length := by
 induction l with
 | nil => simp
 | cons x r ih =>
   have h1 := h x (by simp)
   have h2 := ih fun y hy => h y (by simp [hy])
   simp only [List.map_cons, List.sum_cons, List.length_cons, Nat.mul_add]
   omega
theorem Grown.small {l : List Node} (h : Grown l) : NodesSmall l ∧ (packP l).length ≤ 100000 := by
 refine ⟨fun n hn => by have := h.short n hn; omega, ?_⟩
 have h1 := packP_len l
 have h2 := sum_le l 136 fun x hx => by have := h.short x hx; omega
 have h3 := h.len
 omega
set_option maxHeartbeats 800000 in
set_option maxRecDepth 100000 in
theorem newStore_any (w : World) (hT : tabTop ≤ w.heap.size) :
 Calls Tryz.prog 20 #[] w fun e w' => ∃ x s F, e = .returned (pv x) ∧ w.heap.size ≤ x ∧ Blk w' x #[pv s] 36 ∧ StoreAt w' F s [] ∧ (∀ k, F k → w.heap.size ≤ k) ∧ ¬ F x ∧ Keeps Non w w' := by
 go_enter Tryz.func20, Tryz.ntmps20
 go_wp2_with fail
 refine (new_any w hT).mono ?_
 rintro e w1 ⟨s, rfl, hs, h1, hk1⟩
 have H1 := Lib.hid h1
 have HK1 := Lib.hid hk1
 clear h1 hk1
 unfold pv
 go_wp2_with fail
 go_ret
 refine ⟨w1.heap.size, s, _, rfl, HK1.out.size, Blk.new _ _ _, H1.out.non ((Keeps.refl _ _).alloc _), fun k hk => hk.1, fun h => by have := h.2; omega, HK1.out.alloc _⟩
end Go.Proofs.YtdkogijdfgfpeaaGreatDoor
