/- (*narlaw.World).step: one step on both sides. (Printed by step.py.) -/
import Derived.Test.YtdkogijdfgfpeaaGreatDoorChecked
import Derived.Test.YtdkogijdfgfpeaaGreatDoorLGet
import Derived.Test.YtdkogijdfgfpeaaGreatDoorSmall
import Derived.Test.YtdkogijdfgfpeaaGreatDoorPathsW
import Derived.Test.YtdkogijdfgfpeaaGreatDoorQClosP
namespace Go.Proofs.YtdkogijdfgfpeaaGreatDoor
open Go Go.RowKit
set_option linter.unusedVariables false

/-- what a step is asked of -/
structure StepIn (X : List Part) (D : LD) (w W0 : World) (o : OpV) : Prop where
  parts : Parts (X ++ lawParts D) w
  low : lowPart W0 ∈ X
  op : OpAt W0 o
  tabs : Tabs W0
  np : D.ps.length ≤ 1000000
  nl : D.ls.length ≤ 1000000
  nt : D.ts.length ≤ 1000000
def StepPost (X : List Part) (D : LD) (e : Ending) (w' : World) : Prop := e = .returned (.bool true) ∧ ∃ D', D.Next D' ∧ Parts (X ++ lawParts D') w'
theorem infoPr : (Tryz.prog.info? 132).map (fun i => (i.zero, i.size, i.bytes)) = some (some (.agg #[.pointer none, .pointer none]), 2, 16) := by kernel_rfl
theorem closP {w w' : World} {L : Ents} {roots : List (List UInt8)} {ed : Ending} (h : ClosPost w L roots ed w') :
    ∃ (ca : Option Addr) (cn : Nat) (T : List (List UInt8)) (er : Int), ed = .returned (.tuple #[.slice ca T.length cn, .int .i64 er]) ∧ Sl w' w.heap.size 9 1 (.slice ca T.length cn) T.length (svs T) ∧ Keeps Non w w' ∧
      (((∃ r ∈ roots, findE L r = none) ∧ er = 15 ∧ T = []) ∨ ((∀ r ∈ roots, (findE L r).isSome = true) ∧ ∃ K, ReachOf L roots K ∧ er = 0 ∧ T = closL L K)) := by
  rcases h with ⟨hf, rfl, hk⟩ | ⟨hf, K, v, hK, rfl, hs, hk⟩
  · exact ⟨none, 0, [], _, rfl, Sl.nil _ _ _ _, hk, .inl ⟨hf, rfl, rfl⟩⟩
  · obtain ⟨a1, c1, rfl, -, -⟩ := hs.shape
    exact ⟨a1, c1, _, _, rfl, hs, hk, .inr ⟨hf, K, hK, rfl, rfl⟩⟩
theorem InsPost.before {w w0 w' : World} {F : Nat → Prop} {s : Nat} {R : Int × Ents} {ed : Ending} (h : InsPost w0 F s R ed w') (k : Keeps Non w w0) : InsPost w F s R ed w' := by
  obtain ⟨h1, ⟨F', h2, h3⟩, h4⟩ := h
  have := k.size
  exact ⟨h1, ⟨F', h2, fun j hj => (h3 j hj).imp id fun h => ⟨by omega, h.2⟩⟩, (k.mono fun _ _ h => h.elim).trans h4 fun _ h => .inl h⟩
theorem InsPost.after {w w1 w' : World} {F : Nat → Prop} {s : Nat} {R : Int × Ents} {ed : Ending} (h : InsPost w F s R ed w1) (k : Keeps Non w1 w') : InsPost w F s R ed w' := by
  obtain ⟨h1, ⟨F', h2, h3⟩, h4⟩ := h
  have := k.size
  exact ⟨h1, ⟨F', h2.non k, fun j hj => (h3 j hj).imp id fun h => ⟨h.1, by omega⟩⟩, h4.trans k fun _ h => h.elim⟩
theorem law_apart {X : List Part} {D : LD} {w : World} {p : Pr} {q : Part} (h : Parts (X ++ lawParts D) w) (hq : q ∈ X) (hp : p ∈ D.ps) : ∀ j, q.S j → ¬ (pairPart p).S j :=
  (List.pairwise_append.1 h.sep).2.2 q hq (pairPart p) (by simp only [lawParts, List.mem_append, List.mem_map]; exact .inr (.inl ⟨p, hp, rfl⟩))
theorem op_nodes {W : World} {o : OpV} (h : OpAt W o) : NodesSmall o.l ∧ (packP o.l).length ≤ 70368744177664 := by
  refine ⟨fun n hn => by have := h.nl n hn; omega, ?_⟩
  have h1 := packP_len o.l
  have h2 : ∀ l : List Node, (∀ x ∈ l, x.path.length ≤ 1048576 ∧ x.data.length ≤ 1048576) → (l.map fun x => x.path.length + x.data.length).sum ≤ l.length * 2097152 := by
    intro l
    induction l with
    | nil => intro _; simp
    | cons x r ih =>
      intro hx
      have h3 := ih fun y hy => hx y (List.mem_cons_of_mem _ hy)
      have h4 := hx x (List.mem_cons_self ..)
      simp only [List.map_cons, List.sum_cons, List.length_cons, Nat.succ_mul]
      omega
  have h3 := h2 o.l h.nl
  have h4 := h.ll
  have h5 : o.l.length * 2097152 ≤ 1048576 * 2097152 := Nat.mul_le_mul_right _ h4
  omega

set_option maxHeartbeats 6400000 in
set_option maxRecDepth 100000 in
theorem step_new {X : List Part} {D : LD} {w W0 : World} {o : OpV} (hin : StepIn X D w W0 o) (hkind : o.kind = 1) :
    Calls Tryz.prog 32 #[pv D.b, .agg (opC o).toArray] w (StepPost X D) := by
  obtain ⟨kind, a, c, s, bb, vl, vm, vd, L, M, Dd⟩ := o
  simp only at hkind
  subst hkind
  obtain ⟨la, lc, hsl, hl1, hl2⟩ := hin.op.rl.shape
  obtain ⟨ma, mc, hsm, hm1, hm2⟩ := hin.op.rm.shape
  obtain ⟨da, dc, hsd, hd1, hd2⟩ := hin.op.rd.shape
  simp only at hsl hsm hsd hl1 hm1 hd1
  subst hsl hsm hsd
  have HIN := Lib.hid hin
  have hnp := hin.np
  have hnl := hin.nl
  have hnt := hin.nt
  have hLL := hin.op.ll
  have hML := hin.op.lm
  have hSL := hin.op.ls
  have hia := hin.op.ia
  simp only at hLL hML hSL hia
  unfold maxLen at hl2 hm2 hd2
  have HPA : Hid (Parts (blkPart w.heap.size (opC ⟨1, a, c, s, bb, .slice la L.length lc, .slice ma M.length mc, .slice da Dd.length dc, L, M, Dd⟩).toArray TOp :: (X ++ lawParts D)) (w.alloc (.cells (opC ⟨1, a, c, s, bb, .slice la L.length lc, .slice ma M.length mc, .slice da Dd.length dc, L, M, Dd⟩).toArray TOp))) := hin.parts.blk _ _
  clear hin
  unfold pv opC at *
  go_enter Tryz.func32, Tryz.ntmps32
  go_upto_region 1 with (fail)
  generalize w.heap.size = ob at *
  generalize w.alloc (.cells (List.toArray [.int .i64 1, .int .i64 a, .int .i64 c, .string s, .string bb, .slice la L.length lc, .slice ma M.length mc, .slice da Dd.length dc]) 67) = w1 at *
  have hob : Blk w1 ob (List.toArray [.int .i64 1, .int .i64 a, .int .i64 c, .string s, .string bb, .slice la L.length lc, .slice ma M.length mc, .slice da Dd.length dc]) TOp := HPA.out.head
  have op0 := hob.cell 0
  have op1 := hob.cell 1
  simp only [List.getElem?_toArray, List.getElem?_cons_zero, List.getElem?_cons_succ] at op0 op1
  clear hob
  have hT1 : tabTop ≤ w1.heap.size := Nat.le_trans HIN.out.tabs.top (law_low (X := blkPart ob _ TOp :: X) HPA.out (List.mem_cons_of_mem _ HIN.out.low)).size
  have hw1 : w1.heap.size = w1.heap.size := rfl
  go_wp2_with fail
  refine (newStore_any w1 hT1).mono ?_
  rintro e w2 ⟨x, st, F, rfl, hx, hbx, hst, hF, hFx, hk2⟩
  have HBX := Lib.hid hbx
  have HST := Lib.hid hst
  have HF := Lib.hid hF
  have HFX := Lib.hid hFx
  have HX := Lib.hid hx
  have HP2 : Hid (Parts (blkPart ob (List.toArray [.int .i64 1, .int .i64 a, .int .i64 c, .string s, .string bb, .slice la L.length lc, .slice ma M.length mc, .slice da Dd.length dc]) TOp :: (X ++ lawParts D)) w2) := HPA.out.non hk2
  have HK2 := Lib.hid hk2
  have hbd := law_blk (X := blkPart ob _ TOp :: X) HP2.out
  have hss := law_ss (X := blkPart ob _ TOp :: X) HP2.out
  obtain ⟨sa, sc, hsv, hs1, hs2⟩ := hss.shape
  unfold maxLen at hs2
  have c0 : w2.cell? ⟨D.b, 0, none⟩ = some (.slice sa D.ps.length sc) := by rw [← hsv]; exact hbd.cell 0
  rw [hsv] at hss
  have HSV := Lib.hid hsv
  have HSS := Lib.hid hss
  clear hx hbx hst hF hFx hk2 op0 op1 hbd hsv hss hT1 hw1
  unfold pv
  obtain ⟨i1, hj, hj0, hj1, hj2⟩ := info_parts infoPr
  go_upto_region 6 with (fail)
  obtain ⟨rb, hrb⟩ : ∃ rb, w2.heap.size = rb := ⟨_, rfl⟩
  have HRB := Lib.hid hrb
  clear hrb
  go_wp2_with (at_builtin; refine wpList_append_own2 rfl _ _ 70 70 rfl 132 i1 _ 2 16 Tryz.underlying70 hj hj0 hj1 hj2 rfl 0 _ _ _ rfl _ rfl 1 [.pointer (some ⟨x, 0, none⟩), .pointer (some ⟨w2.heap.size, 0, none⟩)] ?d21 ((HSS.out.alloc _).alloc _) ?d22 ?d23 ?d24 ?_)
  try (case d21 => omega)
  case d22 =>
    have h1 := Sl.of_new (w2.alloc (.cells #[.slice none 0 0] 130)) 0 (Nat.zero_le _) 132 2 1 [.pointer (some ⟨x, 0, none⟩), .pointer (some ⟨w2.heap.size, 0, none⟩)] rfl (by simp [maxLen])
    have hz : (w2.alloc (.cells #[.slice none 0 0] 130)).heap.size = w2.heap.size + 1 := by simp
    rw [hz] at h1
    exact Src.ofSl Tryz.underlying70 h1 (by intro u hu; simp only [List.mem_cons, List.not_mem_nil, or_false] at hu; rcases hu with rfl | rfl <;> rfl)
  case d23 => unfold maxLen; omega
  case d24 => omega
  intro ao cc w4 hs4 hk4 hkk4 hb4
  have hkA : Keeps Non w2 ((w2.alloc (.cells #[.slice none 0 0] 130)).alloc (.cells #[.pointer (some ⟨x, 0, none⟩), .pointer (some ⟨w2.heap.size, 0, none⟩)] 132)) := ((Keeps.refl _ _).alloc _).alloc _
  have hqb : Blk ((w2.alloc (.cells #[.slice none 0 0] 130)).alloc (.cells #[.pointer (some ⟨x, 0, none⟩), .pointer (some ⟨w2.heap.size, 0, none⟩)] 132)) w2.heap.size #[.slice none 0 0] 130 := (Blk.new w2 _ _).alloc _
  have hxl := HBX.out.lt
  have HPX : Hid (Parts (pairPart ⟨x, st, w2.heap.size, F, One w2.heap.size, []⟩ :: ((blkPart ob (List.toArray [.int .i64 1, .int .i64 a, .int .i64 c, .string s, .string bb, .slice la L.length lc, .slice ma M.length mc, .slice da Dd.length dc]) TOp :: X) ++ lawParts D)) ((w2.alloc (.cells #[.slice none 0 0] 130)).alloc (.cells #[.pointer (some ⟨x, 0, none⟩), .pointer (some ⟨w2.heap.size, 0, none⟩)] 132))) := by
    refine Parts.add (w := w1) HPA.out ⟨HBX.out.keeps hkA fun h => h, HFX.out, fun h => ?_, fun k hk hg => ?_, HST.out.non hkA, QAt.empty hqb⟩ (HK2.out.tn hkA) fun j hj => ?_
    · have : x = w2.heap.size := h
      omega
    · have h1 := HST.out.lt k hk
      have : k = w2.heap.size := hg
      omega
    · rcases hj with rfl | hj | hj
      · exact HX.out
      · exact HF.out j hj
      · have : j = w2.heap.size := hj
        have := HK2.out.size
        omega
  have HB4 : Hid (Blk w4 D.b (wCells D) TWd) := (law_blk (X := pairPart _ :: blkPart ob _ TOp :: X) HPX.out).kp hk4 (.inr (by decide))
  have HPF : Hid (Parts ((blkPart ob (List.toArray [.int .i64 1, .int .i64 a, .int .i64 c, .string s, .string bb, .slice la L.length lc, .slice ma M.length mc, .slice da Dd.length dc]) TOp :: X) ++ lawParts (D.paired (.slice ao (D.ps.length + 1) cc) ⟨x, st, w2.heap.size, F, One w2.heap.size, []⟩)) (w4.setCell ⟨D.b, 0, none⟩ (.slice ao (D.ps.length + 1) cc))) :=
    law_paired (X := blkPart ob _ TOp :: X) HPX.out hs4 (by rw [HSV.out]; exact hkk4) (by
      rcases hb4 with h1 | h1
      · exact .inl (by rw [HSV.out]; exact h1)
      · exact .inr ⟨_, h1, by simp⟩)
  have c0' : w4.cell? ⟨D.b, 0, none⟩ = some D.vss := HB4.out.cell 0
  have f0 := HB4.out.free 0
  clear hs4 hk4 hkk4 hb4 hkA hqb hj hj0 hj1 hj2 c0
  go_wp2_with fail
  go_ret
  exact ⟨rfl, _, LD.next_paired D _ _, HPF.out.tail⟩

set_option maxHeartbeats 6400000 in
set_option maxRecDepth 100000 in
theorem step_ins {X : List Part} {D : LD} {w W0 : World} {o : OpV} (hin : StepIn X D w W0 o) (hkind : o.kind = 2) :
    Calls Tryz.prog 32 #[pv D.b, .agg (opC o).toArray] w (StepPost X D) := by
  obtain ⟨kind, a, c, s, bb, vl, vm, vd, L, M, Dd⟩ := o
  simp only at hkind
  subst hkind
  obtain ⟨la, lc, hsl, hl1, hl2⟩ := hin.op.rl.shape
  obtain ⟨ma, mc, hsm, hm1, hm2⟩ := hin.op.rm.shape
  obtain ⟨da, dc, hsd, hd1, hd2⟩ := hin.op.rd.shape
  simp only at hsl hsm hsd hl1 hm1 hd1
  subst hsl hsm hsd
  have HIN := Lib.hid hin
  have hnp := hin.np
  have hnl := hin.nl
  have hnt := hin.nt
  have hLL := hin.op.ll
  have hML := hin.op.lm
  have hSL := hin.op.ls
  have hia := hin.op.ia
  simp only at hLL hML hSL hia
  unfold maxLen at hl2 hm2 hd2
  have HPA : Hid (Parts (blkPart w.heap.size (opC ⟨2, a, c, s, bb, .slice la L.length lc, .slice ma M.length mc, .slice da Dd.length dc, L, M, Dd⟩).toArray TOp :: (X ++ lawParts D)) (w.alloc (.cells (opC ⟨2, a, c, s, bb, .slice la L.length lc, .slice ma M.length mc, .slice da Dd.length dc, L, M, Dd⟩).toArray TOp))) := hin.parts.blk _ _
  clear hin
  unfold pv opC at *
  go_enter Tryz.func32, Tryz.ntmps32
  go_upto_region 1 with (fail)
  generalize w.heap.size = ob at *
  generalize w.alloc (.cells (List.toArray [.int .i64 2, .int .i64 a, .int .i64 c, .string s, .string bb, .slice la L.length lc, .slice ma M.length mc, .slice da Dd.length dc]) 67) = w1 at *
  have hob : Blk w1 ob (List.toArray [.int .i64 2, .int .i64 a, .int .i64 c, .string s, .string bb, .slice la L.length lc, .slice ma M.length mc, .slice da Dd.length dc]) TOp := HPA.out.head
  have op0 := hob.cell 0
  have op1 := hob.cell 1
  simp only [List.getElem?_toArray, List.getElem?_cons_zero, List.getElem?_cons_succ] at op0 op1
  clear hob
  have hbd := law_blk (X := blkPart ob _ TOp :: X) HPA.out
  have hss := law_ss (X := blkPart ob _ TOp :: X) HPA.out
  obtain ⟨sa, sc, hsv, hs1, hs2⟩ := hss.shape
  unfold maxLen at hs2
  have c0 : w1.cell? ⟨D.b, 0, none⟩ = some (.slice sa D.ps.length sc) := by rw [← hsv]; exact hbd.cell 0
  rw [hsv] at hss
  have HSS := Lib.hid hss
  have HSV := Lib.hid hsv
  clear hsv hss hbd
  by_cases hz : D.ps.length = 0
  · rw [hz] at c0
    have HPB := HPA
    go_wp2_with fail
    go_ret
    exact ⟨rfl, D, LD.Next.refl D, HPB.out.tail⟩
  · obtain ⟨kk, hkk, hkk2⟩ := pick_range a (D.ps.length : Int) (by omega)
    have hkk3 : kk < D.ps.length := by omega
    obtain ⟨p, hp⟩ : ∃ p, D.ps[kk]? = some p := ⟨_, List.getElem?_eq_getElem hkk3⟩
    have HPK : Hid (∀ wx, Calls Tryz.prog 60 #[.int .i64 a, .int .i64 D.ps.length] wx fun e w' => e = .returned (.int .i64 kk) ∧ wx = w') := fun wx => by
      have := pick_any a (D.ps.length : Int) wx hia.1 hia.2 (by omega) (by omega)
      rw [hkk] at this
      exact this
    have HMEM : Hid (p ∈ D.ps) := List.mem_of_getElem? hp
    obtain ⟨b', o', c', hsh, -, -, -, hltb, hcc, -⟩ := HSS.out.pos (by omega)
    obtain ⟨rfl, rfl⟩ : sa = some ⟨b', o', none⟩ ∧ sc = c' := by cases hsh; exact ⟨rfl, rfl⟩
    clear hsh
    have hat := prCells_at D.ps kk p hp
    have s0 : w1.cell? ⟨b', o' + kk * 2, none⟩ = some (pv p.x) := (hcc _ (by omega)).trans hat.1
    have s1 : w1.cell? ⟨b', o' + kk * 2 + 1, none⟩ = some (pv p.r) := by rw [Nat.add_assoc]; exact (hcc _ (by omega)).trans hat.2
    obtain ⟨px, st, r, F, G, E⟩ := p
    unfold pv at s0 s1
    simp only at s0 s1
    have q2 : (0 : Int) ≤ (kk : Int) := by omega
    have q3 : (kk : Int) < (D.ps.length : Int) := by omega
    clear hcc hat hp hkk hkk2
    go_upto_region 10 with (fail)
    have HCC : Hid (∀ wx, Keeps Non w1 wx → wx.cell? ⟨D.b, 0, none⟩ = some (.slice (some ⟨b', o', none⟩) D.ps.length sc) ∧ wx.cell? ⟨ob, 1, none⟩ = some (.int .i64 a) ∧ wx.cell? ⟨b', o' + kk * 2, none⟩ = some (.pointer (some ⟨px, 0, none⟩)) ∧ wx.cell? ⟨b', o' + kk * 2 + 1, none⟩ = some (.pointer (some ⟨r, 0, none⟩))) := fun wx hk => by
      have hbl := hk.below (Nat.le_refl _) (fun _ _ h => h)
      have h1 := (law_blk (X := blkPart ob _ TOp :: X) HPA.out).keeps hk fun h => h
      have h2 : Blk wx ob (List.toArray [.int .i64 2, .int .i64 a, .int .i64 c, .string s, .string bb, .slice la L.length lc, .slice ma M.length mc, .slice da Dd.length dc]) TOp := (show Blk w1 ob _ TOp from HPA.out.head).keeps hk fun h => h
      refine ⟨?_, h2.cell 1, (hbl.cell (p := ⟨b', o' + kk * 2, none⟩) hltb).trans s0, (hbl.cell (p := ⟨b', o' + kk * 2 + 1, none⟩) hltb).trans s1⟩
      rw [← HSV.out]
      exact h1.cell 0
    have q4 : IntKind.i64.wrap (kk : Int) = (kk : Int) := IntWalk.i64_in _ (by omega)
    have hc : Keeps Non w1 w1 := Keeps.refl _ _
    go_cut [6] (fun v6 wx => ∃ pb, v6 = .pointer (some ⟨pb, 0, none⟩) ∧ Hid (Parts (blkPart pb #[.pointer (some ⟨px, 0, none⟩), .pointer (some ⟨r, 0, none⟩)] TPr :: blkPart ob (List.toArray [.int .i64 2, .int .i64 a, .int .i64 c, .string s, .string bb, .slice la L.length lc, .slice ma M.length mc, .slice da Dd.length dc]) TOp :: (X ++ lawParts D)) wx))
    case first =>
      go_region_held3 (fun w' => w'.cell? ⟨D.b, 0, none⟩ = some (.slice (some ⟨b', o', none⟩) D.ps.length sc) ∧ w'.cell? ⟨ob, 1, none⟩ = some (.int .i64 a) ∧ w'.cell? ⟨b', o' + kk * 2, none⟩ = some (.pointer (some ⟨px, 0, none⟩)) ∧ w'.cell? ⟨b', o' + kk * 2 + 1, none⟩ = some (.pointer (some ⟨r, 0, none⟩))) (first | exact ⟨c0, op1, s0, s1⟩ | exact HCC.out _ hc | exact HCC.out _ hc.drew | exact HCC.out _ (hc.alloc _) | exact HCC.out _ (hc.drew.alloc _)) (first
          | (go_at_call 60
             refine (HPK.out _).mono ?_
             rintro e w2 ⟨rfl, rfl⟩))
      all_goals (
        go_wp2_with fail
        go_meet
        first
          | exact ⟨_, rfl, HPA.out.blk _ _⟩
          | exact ⟨_, rfl, (HPA.out.blk _ _).non (Keeps.refl _ _).drew⟩
          | exact ⟨_, rfl, (HPA.out.non (Keeps.refl _ _).drew).blk _ _⟩
          | exact ⟨_, rfl, ((HPA.out.non (Keeps.refl _ _).drew).blk _ _).non (Keeps.refl _ _).drew⟩
          | exact ⟨_, rfl, (HPA.out.blk _ _).non ((Keeps.refl _ _).drewN _)⟩
          | exact ⟨_, rfl, ((HPA.out.non ((Keeps.refl _ _).drewN _)).blk _ _).non ((Keeps.refl _ _).drewN _)⟩)
    case rest =>
      obtain ⟨pb, hsh, HP⟩ := hcut
      subst hsh
      clear s0 s1 c0 op0 op1 HSS HSV HPK HPA HCC hc
      generalize wc = w2 at *
      have hob : Blk w2 ob (List.toArray [.int .i64 2, .int .i64 a, .int .i64 c, .string s, .string bb, .slice la L.length lc, .slice ma M.length mc, .slice da Dd.length dc]) TOp := HP.out.all (blkPart ob _ TOp) (by simp)
      have hpb : Blk w2 pb #[.pointer (some ⟨px, 0, none⟩), .pointer (some ⟨r, 0, none⟩)] TPr := HP.out.head
      have hpr := law_pr (X := blkPart pb _ TPr :: blkPart ob _ TOp :: X) HP.out HMEM.out
      have HPR := Lib.hid hpr
      have op0 := hob.cell 0
      have op3 := hob.cell 3
      have op5 := hob.cell 5
      have op6 := hob.cell 6
      have p0 := hpb.cell 0
      have p1 := hpb.cell 1
      have x0 := hpr.box.cell 0
      unfold pv at x0
      simp only [List.getElem?_toArray, List.getElem?_cons_zero, List.getElem?_cons_succ] at op0 op3 op5 op6 p0 p1 x0
      clear hob hpb hpr
      have HP2 := HP
      obtain ⟨i0, hi, hi0, hi1, hi2⟩ := info_parts infoNd
      obtain ⟨i1, hj, hj0, hj1, hj2⟩ := info_parts infoStr
      have HLOW : Hid (∀ wx, Keeps Non w2 wx → OpAt wx ⟨2, a, c, s, bb, .slice la L.length lc, .slice ma M.length mc, .slice da Dd.length dc, L, M, Dd⟩) := fun wx hk => HIN.out.op.low (law_low (X := blkPart pb _ TPr :: blkPart ob _ TOp :: X) (HP2.out.non hk) (List.mem_cons_of_mem _ (List.mem_cons_of_mem _ HIN.out.low)))
      go_wp2_with (at_builtin; refine wpList_append_own2 rfl _ _ 50 50 rfl 49 i0 _ 3 40 Tryz.underlying50 hi hi0 hi1 hi2 rfl w2.heap.size _ 0 [] rfl _ rfl L.length (nodeCells L) ?d11 (Sl.nil _ _ _ _) ?d12 ?d13 ?d14 ?_)
      try (case d11 => exact Nat.le_refl _)
      case d12 => exact Src.ofRd Tryz.underlying50 (HLOW.out w2 (Keeps.refl _ _)).rl (nodes_one L)
      case d13 => unfold maxLen; omega
      case d14 => omega
      intro ao1 cc1 w3 hs3 hk3 hkk3 hb3
      have HK3 : Hid (Keeps Non w2 w3) := hkk3.mono fun j _ hj => by cases hj
      have HS3 : Hid (Sl w3 w2.heap.size 49 3 (.slice ao1 L.length cc1) L.length (nodeCells L)) := by
        show Sl _ _ _ _ _ _ _
        simpa using hs3
      have HP3 := Lib.hid (HP2.out.put HK3.out HS3.out)
      have hob : Blk w3 ob (List.toArray [.int .i64 2, .int .i64 a, .int .i64 c, .string s, .string bb, .slice la L.length lc, .slice ma M.length mc, .slice da Dd.length dc]) TOp := HP3.out.all (blkPart ob _ TOp) (by simp)
      have op6 := hob.cell 6
      simp only [List.getElem?_toArray, List.getElem?_cons_zero, List.getElem?_cons_succ] at op6
      clear hs3 hk3 hkk3 hb3 hob op0 op3 op5 p0 p1 x0 hi hi0 hi1 hi2 HP
      go_wp2_with (at_builtin; refine wpList_append_own2 rfl _ _ 26 26 rfl 9 i1 _ 1 16 Tryz.underlying26 hj hj0 hj1 hj2 rfl w3.heap.size _ 0 [] rfl _ rfl M.length (svs M) ?d21 (Sl.nil _ _ _ _) ?d22 ?d23 ?d24 ?_)
      try (case d21 => exact Nat.le_refl _)
      case d22 => exact Src.ofRd Tryz.underlying26 (HLOW.out w3 HK3.out).rm (fun u hu => by obtain ⟨_, _, rfl⟩ := List.mem_map.1 hu; rfl)
      case d23 => unfold maxLen; omega
      case d24 => omega
      intro ao2 cc2 w4 hs4 hk4 hkk4 hb4
      have hkn : Keeps Non w3 w4 := hkk4.mono fun j _ hj => by cases hj
      have HK4 := Lib.hid (HK3.out.tn hkn)
      have HS4 : Hid (Sl w4 w3.heap.size 9 1 (.slice ao2 M.length cc2) M.length (svs M)) := by
        show Sl _ _ _ _ _ _ _
        simpa using hs4
      have HP4 := Lib.hid (HP3.out.put hkn HS4.out)
      obtain ⟨XX, hXX⟩ : ∃ XX, slPart TStr 1 (.slice ao2 M.length cc2) M.length (svs M) :: slPart TNd 3 (.slice ao1 L.length cc1) L.length (nodeCells L) :: blkPart pb #[.pointer (some ⟨px, 0, none⟩), .pointer (some ⟨r, 0, none⟩)] TPr :: blkPart ob (List.toArray [.int .i64 2, .int .i64 a, .int .i64 c, .string s, .string bb, .slice la L.length lc, .slice ma M.length mc, .slice da Dd.length dc]) TOp :: X = XX := ⟨_, rfl⟩
      have HPX : Hid (Parts (XX ++ lawParts D) w4) := by rw [← hXX]; exact HP4.out
      have HXX := Lib.hid hXX
      have HPR4 := Lib.hid (law_pr HPX.out HMEM.out)
      have HT4 := Lib.hid (HIN.out.tabs.below (law_low HPX.out (by rw [← hXX]; simp [HIN.out.low])) HIN.out.tabs.top)
      have HSL3 : Hid (Rd w4 3 (.slice ao1 L.length cc1) L.length (nodeCells L)) := (show Sl w4 0 TNd 3 _ _ _ from HP4.out.tail.head).rd
      have HSL4 : Hid (Rd w4 1 (.slice ao2 M.length cc2) M.length (svs M)) := (show Sl w4 0 TStr 1 _ _ _ from HP4.out.head).rd
      have HSMALL : Hid (NodesSmall L ∧ (packP L).length ≤ 70368744177664) := op_nodes HIN.out.op
      have HNM : Hid (∀ r ∈ M, r.length ≤ 1099511627776) := fun r hr => by have := HIN.out.op.nm r hr; omega
      obtain ⟨R, hR⟩ : ∃ R, insE E s.data.toList L M = R := ⟨_, rfl⟩
      have HCALL : Hid (∀ wx, Keeps Non w4 wx → Calls Tryz.prog 24 #[.pointer (some ⟨st, 0, none⟩), .string s, .slice ao1 L.length cc1, .slice ao2 M.length cc2] wx (InsPost w4 F st R)) := fun wx hk => by
        rw [← hR]
        exact (insert_any wx (HPR4.out.st.non hk) (HT4.out.keeps hk) s (by omega) L _ (HSL3.out.non hk) HSMALL.out.1 HSMALL.out.2 M _ (HSL4.out.non hk) (by omega) HNM.out).mono fun e w' h => h.before hk
      have HRR := Lib.hid hR
      have HCC : Hid (∀ wx, Keeps F w4 wx → wx.cell? ⟨pb, 0, none⟩ = some (.pointer (some ⟨px, 0, none⟩)) ∧ wx.cell? ⟨px, 0, none⟩ = some (.pointer (some ⟨st, 0, none⟩)) ∧ wx.cell? ⟨ob, 3, none⟩ = some (.string s) ∧ wx.cell? ⟨pb, 1, none⟩ = some (.pointer (some ⟨r, 0, none⟩)) ∧ wx.cell? ⟨ob, 5, none⟩ = some (.slice la L.length lc) ∧ wx.cell? ⟨ob, 6, none⟩ = some (.slice ma M.length mc)) := fun wx hk => by
        have m1 : blkPart ob (List.toArray [.int .i64 2, .int .i64 a, .int .i64 c, .string s, .string bb, .slice la L.length lc, .slice ma M.length mc, .slice da Dd.length dc]) TOp ∈ XX := by rw [← HXX.out]; simp
        have m2 : blkPart pb #[.pointer (some ⟨px, 0, none⟩), .pointer (some ⟨r, 0, none⟩)] TPr ∈ XX := by rw [← HXX.out]; simp
        have hob : Blk wx ob (List.toArray [.int .i64 2, .int .i64 a, .int .i64 c, .string s, .string bb, .slice la L.length lc, .slice ma M.length mc, .slice da Dd.length dc]) TOp := (show Blk w4 ob _ TOp from HPX.out.all _ (List.mem_append_left _ m1)).keeps hk fun h => law_apart HPX.out m1 HMEM.out ob rfl (.inr (.inl h))
        have hpb : Blk wx pb #[.pointer (some ⟨px, 0, none⟩), .pointer (some ⟨r, 0, none⟩)] TPr := (show Blk w4 pb _ TPr from HPX.out.all _ (List.mem_append_left _ m2)).keeps hk fun h => law_apart HPX.out m2 HMEM.out pb rfl (.inr (.inl h))
        have hbx := HPR4.out.box.keeps hk HPR4.out.nF
        exact ⟨hpb.cell 0, hbx.cell 0, hob.cell 3, hpb.cell 1, hob.cell 5, hob.cell 6⟩
      obtain ⟨p0, x0, op3, -, -, -⟩ := HCC.out w4 (Keeps.refl _ _)
      have hc : Keeps F w4 w4 := Keeps.refl _ _
      clear hs4 hk4 hkk4 hb4 hkn op6 hj hj0 hj1 hj2 hXX hR HS3 HS4 HK3 HP3 HPR
      go_upto_region 15 with (fail)
      go_cut [9] (fun v wx => v = .int .i64 R.1 ∧ Hid (InsPost w4 F st R (.returned (.int .i64 R.1)) wx))
      case first =>
        have hN : Keeps Non w4 w4 := Keeps.refl _ _
        go_region_held3 (fun w' => w'.cell? ⟨pb, 0, none⟩ = some (.pointer (some ⟨px, 0, none⟩)) ∧ w'.cell? ⟨px, 0, none⟩ = some (.pointer (some ⟨st, 0, none⟩)) ∧ w'.cell? ⟨ob, 3, none⟩ = some (.string s)) (first | exact ⟨p0, x0, op3⟩) (first
          | (go_at_call 24
             refine (HCALL.out _ (by first | exact hN | exact hN.drew)).mono ?_
             rintro e w5 hp
             have he := hp.1
             subst he
             have HIP := Lib.hid hp
             clear hp
             replace hc : Keeps F w4 w5 := HIP.out.2.2
             obtain ⟨p0, x0, op3, -, -, -⟩ := HCC.out _ hc))
        all_goals (
          go_wp2_with fail
          go_meet
          exact ⟨rfl, by first | exact HIP | exact HIP.out.after (Keeps.refl _ _).drew⟩)
      case rest =>
        obtain ⟨rfl, HIP⟩ := hcut
        generalize wc = w5 at *
        obtain ⟨-, -, op3, p1, op5, op6⟩ := HCC.out w5 HIP.out.2.2
        have hlow : Below W0.heap.size W0 w5 := by
          have m3 : lowPart W0 ∈ XX := by rw [← HXX.out]; simp [HIN.out.low]
          exact (lowPart W0).st w4 w5 F (HPX.out.all _ (List.mem_append_left _ m3)) HIP.out.2.2 fun k hk hF => law_apart HPX.out m3 HMEM.out k hk (.inr (.inl hF))
        have HOP5 := Lib.hid (HIN.out.op.low hlow)
        have HQ5 := Lib.hid (HPR4.out.qt.keeps HIP.out.2.2 fun b hb hF => HPR4.out.FG b hF hb)
        have HRC : Hid (Calls Tryz.prog 61 #[.pointer (some ⟨r, 0, none⟩), .string s, .slice la L.length lc, .slice ma M.length mc] w5 (QInsPost w5 G r R)) := by
          have h1 := rinsert_any w5 HQ5.out HPR4.out.st.ok HPR4.out.st.fit s (by omega) L _ HOP5.out.rl HSMALL.out.1 (by omega) HSMALL.out.2 M _ HOP5.out.rm (by omega) HNM.out
          simp only at h1
          rw [HRR.out] at h1
          exact h1
        clear hlow p0 x0 hc HCC HCALL HQ5 HOP5 HSL3 HSL4 HT4
        go_wp2_with fail
        refine HRC.out.mono ?_
        rintro e w6 hq
        have he := hq.1
        subst he
        obtain ⟨D', hDb, hDp, hDs, hDl, hDt, hp6⟩ := law_insert HMEM.out HPX.out HIP.out hq
        have HP6 : Hid (Parts (slPart TNd 3 (.slice ao1 L.length cc1) L.length (nodeCells L) :: ((slPart TStr 1 (.slice ao2 M.length cc2) M.length (svs M) :: blkPart pb #[.pointer (some ⟨px, 0, none⟩), .pointer (some ⟨r, 0, none⟩)] TPr :: blkPart ob (List.toArray [.int .i64 2, .int .i64 a, .int .i64 c, .string s, .string bb, .slice la L.length lc, .slice ma M.length mc, .slice da Dd.length dc]) TOp :: X) ++ lawParts D')) w6) := by
          rw [← HXX.out] at hp6
          exact hp6.perm (List.Perm.swap ..)
        have hnt2 : D'.ts.length ≤ 1000000 := by rw [hDt]; exact hnt
        have hnl2 : D'.ls.length ≤ 1000000 := by rw [hDl]; exact hnl
        have HNX : Hid (∀ vts u n vls v m, D.Next ((D'.noded vts u n).mined vls v m)) := fun vts u n vls v m => ⟨hDb, by simp [LD.noded, LD.mined]; omega, by simp [LD.noded, LD.mined, hDs], by simp [LD.noded, LD.mined, hDl], by simp [LD.noded, LD.mined, hDt]⟩
        have HDB := Lib.hid hDb
        clear hDb hDp hDs hDl hDt hp6 hq HRC op3 op5 op6 p1 HIP HPX HP4 HPR4
        have herr : (R.1 == R.1) = true := beq_self_eq_true _
        generalize R.1 = z at *
        have HNC := Lib.hid (nodes_any (slPart TStr 1 (.slice ao2 M.length cc2) M.length (svs M) :: blkPart pb #[.pointer (some ⟨px, 0, none⟩), .pointer (some ⟨r, 0, none⟩)] TPr :: blkPart ob (List.toArray [.int .i64 2, .int .i64 a, .int .i64 c, .string s, .string bb, .slice la L.length lc, .slice ma M.length mc, .slice da Dd.length dc]) TOp :: X) D' w6 (.slice ao1 L.length cc1) L HP6.out (by omega) hnt2)
        rw [HDB.out] at HNC
        go_wp2_with fail
        refine HNC.out.mono ?_
        rintro e w7 ⟨rfl, vts', v', hp7⟩
        have HP7 := Lib.hid hp7
        clear hp7 HNC HP6
        have HMC := Lib.hid (mine_any (blkPart pb #[.pointer (some ⟨px, 0, none⟩), .pointer (some ⟨r, 0, none⟩)] TPr :: blkPart ob (List.toArray [.int .i64 2, .int .i64 a, .int .i64 c, .string s, .string bb, .slice la L.length lc, .slice ma M.length mc, .slice da Dd.length dc]) TOp :: X) (D'.noded vts' v' (L.length + 2)) w7 (.slice ao2 M.length cc2) M.length (svs M) HP7.out (by omega) hnl2)
        rw [show (D'.noded vts' v' (L.length + 2)).b = D.b from HDB.out] at HMC
        go_wp2_with fail
        refine HMC.out.mono ?_
        rintro e w8 ⟨rfl, vls', v2, hp8⟩
        have HP8 := Lib.hid hp8
        clear hp8 HMC HP7
        go_wp2_with fail
        go_ret
        exact ⟨rfl, _, HNX.out _ _ _ _ _ _, HP8.out.tail.tail⟩

set_option maxHeartbeats 6400000 in
set_option maxRecDepth 100000 in
theorem step_get {X : List Part} {D : LD} {w W0 : World} {o : OpV} (hin : StepIn X D w W0 o) (hkind : o.kind = 3) :
    Calls Tryz.prog 32 #[pv D.b, .agg (opC o).toArray] w (StepPost X D) := by
  obtain ⟨kind, a, c, s, bb, vl, vm, vd, L, M, Dd⟩ := o
  simp only at hkind
  subst hkind
  obtain ⟨la, lc, hsl, hl1, hl2⟩ := hin.op.rl.shape
  obtain ⟨ma, mc, hsm, hm1, hm2⟩ := hin.op.rm.shape
  obtain ⟨da, dc, hsd, hd1, hd2⟩ := hin.op.rd.shape
  simp only at hsl hsm hsd hl1 hm1 hd1
  subst hsl hsm hsd
  have HIN := Lib.hid hin
  have hnp := hin.np
  have hnl := hin.nl
  have hnt := hin.nt
  have hLL := hin.op.ll
  have hML := hin.op.lm
  have hSL := hin.op.ls
  have hia := hin.op.ia
  simp only at hLL hML hSL hia
  unfold maxLen at hl2 hm2 hd2
  have HPA : Hid (Parts (blkPart w.heap.size (opC ⟨3, a, c, s, bb, .slice la L.length lc, .slice ma M.length mc, .slice da Dd.length dc, L, M, Dd⟩).toArray TOp :: (X ++ lawParts D)) (w.alloc (.cells (opC ⟨3, a, c, s, bb, .slice la L.length lc, .slice ma M.length mc, .slice da Dd.length dc, L, M, Dd⟩).toArray TOp))) := hin.parts.blk _ _
  clear hin
  unfold pv opC at *
  go_enter Tryz.func32, Tryz.ntmps32
  go_upto_region 1 with (fail)
  generalize w.heap.size = ob at *
  generalize w.alloc (.cells (List.toArray [.int .i64 3, .int .i64 a, .int .i64 c, .string s, .string bb, .slice la L.length lc, .slice ma M.length mc, .slice da Dd.length dc]) 67) = w1 at *
  have hob : Blk w1 ob (List.toArray [.int .i64 3, .int .i64 a, .int .i64 c, .string s, .string bb, .slice la L.length lc, .slice ma M.length mc, .slice da Dd.length dc]) TOp := HPA.out.head
  have op0 := hob.cell 0
  have op1 := hob.cell 1
  simp only [List.getElem?_toArray, List.getElem?_cons_zero, List.getElem?_cons_succ] at op0 op1
  clear hob
  have hbd := law_blk (X := blkPart ob _ TOp :: X) HPA.out
  have hss := law_ss (X := blkPart ob _ TOp :: X) HPA.out
  obtain ⟨sa, sc, hsv, hs1, hs2⟩ := hss.shape
  unfold maxLen at hs2
  have c0 : w1.cell? ⟨D.b, 0, none⟩ = some (.slice sa D.ps.length sc) := by rw [← hsv]; exact hbd.cell 0
  rw [hsv] at hss
  have HSS := Lib.hid hss
  have HSV := Lib.hid hsv
  clear hsv hss hbd
  by_cases hz : D.ps.length = 0
  · rw [hz] at c0
    have HPB := HPA
    go_wp2_with fail
    go_ret
    exact ⟨rfl, D, LD.Next.refl D, HPB.out.tail⟩
  · obtain ⟨kk, hkk, hkk2⟩ := pick_range a (D.ps.length : Int) (by omega)
    have hkk3 : kk < D.ps.length := by omega
    obtain ⟨p, hp⟩ : ∃ p, D.ps[kk]? = some p := ⟨_, List.getElem?_eq_getElem hkk3⟩
    have HPK : Hid (∀ wx, Calls Tryz.prog 60 #[.int .i64 a, .int .i64 D.ps.length] wx fun e w' => e = .returned (.int .i64 kk) ∧ wx = w') := fun wx => by
      have := pick_any a (D.ps.length : Int) wx hia.1 hia.2 (by omega) (by omega)
      rw [hkk] at this
      exact this
    have HMEM : Hid (p ∈ D.ps) := List.mem_of_getElem? hp
    obtain ⟨b', o', c', hsh, -, -, -, hltb, hcc, -⟩ := HSS.out.pos (by omega)
    obtain ⟨rfl, rfl⟩ : sa = some ⟨b', o', none⟩ ∧ sc = c' := by cases hsh; exact ⟨rfl, rfl⟩
    clear hsh
    have hat := prCells_at D.ps kk p hp
    have s0 : w1.cell? ⟨b', o' + kk * 2, none⟩ = some (pv p.x) := (hcc _ (by omega)).trans hat.1
    have s1 : w1.cell? ⟨b', o' + kk * 2 + 1, none⟩ = some (pv p.r) := by rw [Nat.add_assoc]; exact (hcc _ (by omega)).trans hat.2
    obtain ⟨px, st, r, F, G, E⟩ := p
    unfold pv at s0 s1
    simp only at s0 s1
    have q2 : (0 : Int) ≤ (kk : Int) := by omega
    have q3 : (kk : Int) < (D.ps.length : Int) := by omega
    clear hcc hat hp hkk hkk2
    go_upto_region 10 with (fail)
    have HCC : Hid (∀ wx, Keeps Non w1 wx → wx.cell? ⟨D.b, 0, none⟩ = some (.slice (some ⟨b', o', none⟩) D.ps.length sc) ∧ wx.cell? ⟨ob, 1, none⟩ = some (.int .i64 a) ∧ wx.cell? ⟨b', o' + kk * 2, none⟩ = some (.pointer (some ⟨px, 0, none⟩)) ∧ wx.cell? ⟨b', o' + kk * 2 + 1, none⟩ = some (.pointer (some ⟨r, 0, none⟩))) := fun wx hk => by
      have hbl := hk.below (Nat.le_refl _) (fun _ _ h => h)
      have h1 := (law_blk (X := blkPart ob _ TOp :: X) HPA.out).keeps hk fun h => h
      have h2 : Blk wx ob (List.toArray [.int .i64 3, .int .i64 a, .int .i64 c, .string s, .string bb, .slice la L.length lc, .slice ma M.length mc, .slice da Dd.length dc]) TOp := (show Blk w1 ob _ TOp from HPA.out.head).keeps hk fun h => h
      refine ⟨?_, h2.cell 1, (hbl.cell (p := ⟨b', o' + kk * 2, none⟩) hltb).trans s0, (hbl.cell (p := ⟨b', o' + kk * 2 + 1, none⟩) hltb).trans s1⟩
      rw [← HSV.out]
      exact h1.cell 0
    have q4 : IntKind.i64.wrap (kk : Int) = (kk : Int) := IntWalk.i64_in _ (by omega)
    have hc : Keeps Non w1 w1 := Keeps.refl _ _
    go_cut [6] (fun v6 wx => ∃ pb, v6 = .pointer (some ⟨pb, 0, none⟩) ∧ Hid (Parts (blkPart pb #[.pointer (some ⟨px, 0, none⟩), .pointer (some ⟨r, 0, none⟩)] TPr :: blkPart ob (List.toArray [.int .i64 3, .int .i64 a, .int .i64 c, .string s, .string bb, .slice la L.length lc, .slice ma M.length mc, .slice da Dd.length dc]) TOp :: (X ++ lawParts D)) wx))
    case first =>
      go_region_held3 (fun w' => w'.cell? ⟨D.b, 0, none⟩ = some (.slice (some ⟨b', o', none⟩) D.ps.length sc) ∧ w'.cell? ⟨ob, 1, none⟩ = some (.int .i64 a) ∧ w'.cell? ⟨b', o' + kk * 2, none⟩ = some (.pointer (some ⟨px, 0, none⟩)) ∧ w'.cell? ⟨b', o' + kk * 2 + 1, none⟩ = some (.pointer (some ⟨r, 0, none⟩))) (first | exact ⟨c0, op1, s0, s1⟩ | exact HCC.out _ hc | exact HCC.out _ hc.drew | exact HCC.out _ (hc.alloc _) | exact HCC.out _ (hc.drew.alloc _)) (first
          | (go_at_call 60
             refine (HPK.out _).mono ?_
             rintro e w2 ⟨rfl, rfl⟩))
      all_goals (
        go_wp2_with fail
        go_meet
        first
          | exact ⟨_, rfl, HPA.out.blk _ _⟩
          | exact ⟨_, rfl, (HPA.out.blk _ _).non (Keeps.refl _ _).drew⟩
          | exact ⟨_, rfl, (HPA.out.non (Keeps.refl _ _).drew).blk _ _⟩
          | exact ⟨_, rfl, ((HPA.out.non (Keeps.refl _ _).drew).blk _ _).non (Keeps.refl _ _).drew⟩
          | exact ⟨_, rfl, (HPA.out.blk _ _).non ((Keeps.refl _ _).drewN _)⟩
          | exact ⟨_, rfl, ((HPA.out.non ((Keeps.refl _ _).drewN _)).blk _ _).non ((Keeps.refl _ _).drewN _)⟩)
    case rest =>
      obtain ⟨pb, hsh, HP⟩ := hcut
      subst hsh
      clear s0 s1 c0 op0 op1 HSS HSV HPK HPA HCC hc
      generalize wc = w2 at *
      have hob : Blk w2 ob (List.toArray [.int .i64 3, .int .i64 a, .int .i64 c, .string s, .string bb, .slice la L.length lc, .slice ma M.length mc, .slice da Dd.length dc]) TOp := HP.out.all (blkPart ob _ TOp) (by simp)
      have hpb : Blk w2 pb #[.pointer (some ⟨px, 0, none⟩), .pointer (some ⟨r, 0, none⟩)] TPr := HP.out.head
      have hpr := law_pr (X := blkPart pb _ TPr :: blkPart ob _ TOp :: X) HP.out HMEM.out
      have HPR := Lib.hid hpr
      have op0 := hob.cell 0
      have op3 := hob.cell 3
      have op5 := hob.cell 5
      have op6 := hob.cell 6
      have p0 := hpb.cell 0
      have p1 := hpb.cell 1
      have x0 := hpr.box.cell 0
      unfold pv at x0
      simp only [List.getElem?_toArray, List.getElem?_cons_zero, List.getElem?_cons_succ] at op0 op3 op5 op6 p0 p1 x0
      clear hob hpb hpr
      have hsv : sv s.data.toList = .string s := by simp [sv]
      have HG := Lib.hid (getl_any (blkPart pb #[.pointer (some ⟨px, 0, none⟩), .pointer (some ⟨r, 0, none⟩)] TPr :: blkPart ob (List.toArray [.int .i64 3, .int .i64 a, .int .i64 c, .string s, .string bb, .slice la L.length lc, .slice ma M.length mc, .slice da Dd.length dc]) TOp :: X) D w2 _ HMEM.out s.data.toList HP.out (by rw [dlen]; omega) hnl hnt)
      rw [hsv] at HG
      clear hsv
      go_wp2_with fail
      refine HG.out.mono ?_
      rintro e w3 ⟨rfl, D', hn, hp3⟩
      have HP3 := Lib.hid hp3
      have HN := Lib.hid hn
      clear hp3 hn
      go_wp2_with fail
      go_ret
      exact ⟨rfl, D', HN.out, HP3.out.tail.tail⟩

set_option maxHeartbeats 6400000 in
set_option maxRecDepth 100000 in
theorem step_paths {X : List Part} {D : LD} {w W0 : World} {o : OpV} (hin : StepIn X D w W0 o) (hkind : o.kind = 4) :
    Calls Tryz.prog 32 #[pv D.b, .agg (opC o).toArray] w (StepPost X D) := by
  obtain ⟨kind, a, c, s, bb, vl, vm, vd, L, M, Dd⟩ := o
  simp only at hkind
  subst hkind
  obtain ⟨la, lc, hsl, hl1, hl2⟩ := hin.op.rl.shape
  obtain ⟨ma, mc, hsm, hm1, hm2⟩ := hin.op.rm.shape
  obtain ⟨da, dc, hsd, hd1, hd2⟩ := hin.op.rd.shape
  simp only at hsl hsm hsd hl1 hm1 hd1
  subst hsl hsm hsd
  have HIN := Lib.hid hin
  have hnp := hin.np
  have hnl := hin.nl
  have hnt := hin.nt
  have hLL := hin.op.ll
  have hML := hin.op.lm
  have hSL := hin.op.ls
  have hia := hin.op.ia
  simp only at hLL hML hSL hia
  unfold maxLen at hl2 hm2 hd2
  have HPA : Hid (Parts (blkPart w.heap.size (opC ⟨4, a, c, s, bb, .slice la L.length lc, .slice ma M.length mc, .slice da Dd.length dc, L, M, Dd⟩).toArray TOp :: (X ++ lawParts D)) (w.alloc (.cells (opC ⟨4, a, c, s, bb, .slice la L.length lc, .slice ma M.length mc, .slice da Dd.length dc, L, M, Dd⟩).toArray TOp))) := hin.parts.blk _ _
  clear hin
  unfold pv opC at *
  go_enter Tryz.func32, Tryz.ntmps32
  go_upto_region 1 with (fail)
  generalize w.heap.size = ob at *
  generalize w.alloc (.cells (List.toArray [.int .i64 4, .int .i64 a, .int .i64 c, .string s, .string bb, .slice la L.length lc, .slice ma M.length mc, .slice da Dd.length dc]) 67) = w1 at *
  have hob : Blk w1 ob (List.toArray [.int .i64 4, .int .i64 a, .int .i64 c, .string s, .string bb, .slice la L.length lc, .slice ma M.length mc, .slice da Dd.length dc]) TOp := HPA.out.head
  have op0 := hob.cell 0
  have op1 := hob.cell 1
  simp only [List.getElem?_toArray, List.getElem?_cons_zero, List.getElem?_cons_succ] at op0 op1
  clear hob
  have hbd := law_blk (X := blkPart ob _ TOp :: X) HPA.out
  have hss := law_ss (X := blkPart ob _ TOp :: X) HPA.out
  obtain ⟨sa, sc, hsv, hs1, hs2⟩ := hss.shape
  unfold maxLen at hs2
  have c0 : w1.cell? ⟨D.b, 0, none⟩ = some (.slice sa D.ps.length sc) := by rw [← hsv]; exact hbd.cell 0
  rw [hsv] at hss
  have HSS := Lib.hid hss
  have HSV := Lib.hid hsv
  clear hsv hss hbd
  by_cases hz : D.ps.length = 0
  · rw [hz] at c0
    have HPB := HPA
    go_wp2_with fail
    go_ret
    exact ⟨rfl, D, LD.Next.refl D, HPB.out.tail⟩
  · obtain ⟨kk, hkk, hkk2⟩ := pick_range a (D.ps.length : Int) (by omega)
    have hkk3 : kk < D.ps.length := by omega
    obtain ⟨p, hp⟩ : ∃ p, D.ps[kk]? = some p := ⟨_, List.getElem?_eq_getElem hkk3⟩
    have HPK : Hid (∀ wx, Calls Tryz.prog 60 #[.int .i64 a, .int .i64 D.ps.length] wx fun e w' => e = .returned (.int .i64 kk) ∧ wx = w') := fun wx => by
      have := pick_any a (D.ps.length : Int) wx hia.1 hia.2 (by omega) (by omega)
      rw [hkk] at this
      exact this
    have HMEM : Hid (p ∈ D.ps) := List.mem_of_getElem? hp
    obtain ⟨b', o', c', hsh, -, -, -, hltb, hcc, -⟩ := HSS.out.pos (by omega)
    obtain ⟨rfl, rfl⟩ : sa = some ⟨b', o', none⟩ ∧ sc = c' := by cases hsh; exact ⟨rfl, rfl⟩
    clear hsh
    have hat := prCells_at D.ps kk p hp
    have s0 : w1.cell? ⟨b', o' + kk * 2, none⟩ = some (pv p.x) := (hcc _ (by omega)).trans hat.1
    have s1 : w1.cell? ⟨b', o' + kk * 2 + 1, none⟩ = some (pv p.r) := by rw [Nat.add_assoc]; exact (hcc _ (by omega)).trans hat.2
    obtain ⟨px, st, r, F, G, E⟩ := p
    unfold pv at s0 s1
    simp only at s0 s1
    have q2 : (0 : Int) ≤ (kk : Int) := by omega
    have q3 : (kk : Int) < (D.ps.length : Int) := by omega
    clear hcc hat hp hkk hkk2
    go_upto_region 10 with (fail)
    have HCC : Hid (∀ wx, Keeps Non w1 wx → wx.cell? ⟨D.b, 0, none⟩ = some (.slice (some ⟨b', o', none⟩) D.ps.length sc) ∧ wx.cell? ⟨ob, 1, none⟩ = some (.int .i64 a) ∧ wx.cell? ⟨b', o' + kk * 2, none⟩ = some (.pointer (some ⟨px, 0, none⟩)) ∧ wx.cell? ⟨b', o' + kk * 2 + 1, none⟩ = some (.pointer (some ⟨r, 0, none⟩))) := fun wx hk => by
      have hbl := hk.below (Nat.le_refl _) (fun _ _ h => h)
      have h1 := (law_blk (X := blkPart ob _ TOp :: X) HPA.out).keeps hk fun h => h
      have h2 : Blk wx ob (List.toArray [.int .i64 4, .int .i64 a, .int .i64 c, .string s, .string bb, .slice la L.length lc, .slice ma M.length mc, .slice da Dd.length dc]) TOp := (show Blk w1 ob _ TOp from HPA.out.head).keeps hk fun h => h
      refine ⟨?_, h2.cell 1, (hbl.cell (p := ⟨b', o' + kk * 2, none⟩) hltb).trans s0, (hbl.cell (p := ⟨b', o' + kk * 2 + 1, none⟩) hltb).trans s1⟩
      rw [← HSV.out]
      exact h1.cell 0
    have q4 : IntKind.i64.wrap (kk : Int) = (kk : Int) := IntWalk.i64_in _ (by omega)
    have hc : Keeps Non w1 w1 := Keeps.refl _ _
    go_cut [6] (fun v6 wx => ∃ pb, v6 = .pointer (some ⟨pb, 0, none⟩) ∧ Hid (Parts (blkPart pb #[.pointer (some ⟨px, 0, none⟩), .pointer (some ⟨r, 0, none⟩)] TPr :: blkPart ob (List.toArray [.int .i64 4, .int .i64 a, .int .i64 c, .string s, .string bb, .slice la L.length lc, .slice ma M.length mc, .slice da Dd.length dc]) TOp :: (X ++ lawParts D)) wx))
    case first =>
      go_region_held3 (fun w' => w'.cell? ⟨D.b, 0, none⟩ = some (.slice (some ⟨b', o', none⟩) D.ps.length sc) ∧ w'.cell? ⟨ob, 1, none⟩ = some (.int .i64 a) ∧ w'.cell? ⟨b', o' + kk * 2, none⟩ = some (.pointer (some ⟨px, 0, none⟩)) ∧ w'.cell? ⟨b', o' + kk * 2 + 1, none⟩ = some (.pointer (some ⟨r, 0, none⟩))) (first | exact ⟨c0, op1, s0, s1⟩ | exact HCC.out _ hc | exact HCC.out _ hc.drew | exact HCC.out _ (hc.alloc _) | exact HCC.out _ (hc.drew.alloc _)) (first
          | (go_at_call 60
             refine (HPK.out _).mono ?_
             rintro e w2 ⟨rfl, rfl⟩))
      all_goals (
        go_wp2_with fail
        go_meet
        first
          | exact ⟨_, rfl, HPA.out.blk _ _⟩
          | exact ⟨_, rfl, (HPA.out.blk _ _).non (Keeps.refl _ _).drew⟩
          | exact ⟨_, rfl, (HPA.out.non (Keeps.refl _ _).drew).blk _ _⟩
          | exact ⟨_, rfl, ((HPA.out.non (Keeps.refl _ _).drew).blk _ _).non (Keeps.refl _ _).drew⟩
          | exact ⟨_, rfl, (HPA.out.blk _ _).non ((Keeps.refl _ _).drewN _)⟩
          | exact ⟨_, rfl, ((HPA.out.non ((Keeps.refl _ _).drewN _)).blk _ _).non ((Keeps.refl _ _).drewN _)⟩)
    case rest =>
      obtain ⟨pb, hsh, HP⟩ := hcut
      subst hsh
      clear s0 s1 c0 op0 op1 HSS HSV HPK HPA HCC hc
      generalize wc = w2 at *
      have hob : Blk w2 ob (List.toArray [.int .i64 4, .int .i64 a, .int .i64 c, .string s, .string bb, .slice la L.length lc, .slice ma M.length mc, .slice da Dd.length dc]) TOp := HP.out.all (blkPart ob _ TOp) (by simp)
      have hpb : Blk w2 pb #[.pointer (some ⟨px, 0, none⟩), .pointer (some ⟨r, 0, none⟩)] TPr := HP.out.head
      have hpr := law_pr (X := blkPart pb _ TPr :: blkPart ob _ TOp :: X) HP.out HMEM.out
      have HPR := Lib.hid hpr
      have op0 := hob.cell 0
      have op3 := hob.cell 3
      have op5 := hob.cell 5
      have op6 := hob.cell 6
      have p0 := hpb.cell 0
      have p1 := hpb.cell 1
      have x0 := hpr.box.cell 0
      unfold pv at x0
      simp only [List.getElem?_toArray, List.getElem?_cons_zero, List.getElem?_cons_succ] at op0 op3 op5 op6 p0 p1 x0
      clear hob hpb hpr
      have hsto := (HPR.out.st).ok.ten
      simp only at hsto
      go_wp2_with fail
      refine (paths_any w2 HPR.out.st).mono ?_
      rintro e w3 ⟨v3, rfl, hs3, hk3⟩
      obtain ⟨a3, c3, rfl, -, -⟩ := hs3.shape
      have HP3 := Lib.hid (HP.out.put hk3 hs3)
      have hpr := HPR.out.qt.non hk3
      have HQ3 := Lib.hid hpr
      have HS3 := Lib.hid hs3
      have hpb : Blk w3 pb #[.pointer (some ⟨px, 0, none⟩), .pointer (some ⟨r, 0, none⟩)] TPr := HP3.out.tail.head
      have t1 := hpb.cell 1
      simp only [List.getElem?_toArray, List.getElem?_cons_zero, List.getElem?_cons_succ] at t1
      clear hpb hpr hs3 hk3 p0 p1 x0 op0 op3 op5 op6 HP
      go_wp2_with fail
      refine (rpaths_any w3 HQ3.out hsto).mono ?_
      rintro e w4 ⟨v4, rfl, hs4, hk4⟩
      have HR4 := Lib.hid hs4.rd
      have HP4 := Lib.hid (HP3.out.non hk4)
      have HR3 := Lib.hid ((HS3.out.non hk4).rd)
      clear hs4 hk4 t1 HP3 HS3 HQ3
      go_wp2_with fail
      refine (ltext_any (E.map Ent.path) (E.map Ent.path) _ _ w4 (by rw [List.length_map]; exact HR3.out) (by rw [List.length_map]; exact HR4.out)).mono ?_
      rintro e w5 ⟨rfl, nd, rfl⟩
      have HP5 := Lib.hid (HP4.out.non ((Keeps.refl _ _).drewN nd))
      have heq : (E.map Ent.path == E.map Ent.path) = true := beq_self_eq_true _
      rw [heq]
      clear heq HP4 HR3 HR4
      go_wp2_with fail
      refine (mine_any (blkPart pb #[.pointer (some ⟨px, 0, none⟩), .pointer (some ⟨r, 0, none⟩)] TPr :: blkPart ob (List.toArray [.int .i64 4, .int .i64 a, .int .i64 c, .string s, .string bb, .slice la L.length lc, .slice ma M.length mc, .slice da Dd.length dc]) TOp :: X) D _ _ _ _ HP5.out (by omega) hnl).mono ?_
      rintro e w6 ⟨rfl, vls', v', hp6⟩
      have HP6 := Lib.hid hp6
      clear hp6
      go_wp2_with fail
      go_ret
      exact ⟨rfl, _, LD.next_mined D _ _ _, HP6.out.tail.tail⟩

set_option maxHeartbeats 6400000 in
set_option maxRecDepth 100000 in
theorem step_clos {X : List Part} {D : LD} {w W0 : World} {o : OpV} (hin : StepIn X D w W0 o) (hkind : o.kind = 5) :
    Calls Tryz.prog 32 #[pv D.b, .agg (opC o).toArray] w (StepPost X D) := by
  obtain ⟨kind, a, c, s, bb, vl, vm, vd, L, M, Dd⟩ := o
  simp only at hkind
  subst hkind
  obtain ⟨la, lc, hsl, hl1, hl2⟩ := hin.op.rl.shape
  obtain ⟨ma, mc, hsm, hm1, hm2⟩ := hin.op.rm.shape
  obtain ⟨da, dc, hsd, hd1, hd2⟩ := hin.op.rd.shape
  simp only at hsl hsm hsd hl1 hm1 hd1
  subst hsl hsm hsd
  have HIN := Lib.hid hin
  have hnp := hin.np
  have hnl := hin.nl
  have hnt := hin.nt
  have hLL := hin.op.ll
  have hML := hin.op.lm
  have hSL := hin.op.ls
  have hia := hin.op.ia
  simp only at hLL hML hSL hia
  unfold maxLen at hl2 hm2 hd2
  have HPA : Hid (Parts (blkPart w.heap.size (opC ⟨5, a, c, s, bb, .slice la L.length lc, .slice ma M.length mc, .slice da Dd.length dc, L, M, Dd⟩).toArray TOp :: (X ++ lawParts D)) (w.alloc (.cells (opC ⟨5, a, c, s, bb, .slice la L.length lc, .slice ma M.length mc, .slice da Dd.length dc, L, M, Dd⟩).toArray TOp))) := hin.parts.blk _ _
  clear hin
  unfold pv opC at *
  go_enter Tryz.func32, Tryz.ntmps32
  go_upto_region 1 with (fail)
  generalize w.heap.size = ob at *
  generalize w.alloc (.cells (List.toArray [.int .i64 5, .int .i64 a, .int .i64 c, .string s, .string bb, .slice la L.length lc, .slice ma M.length mc, .slice da Dd.length dc]) 67) = w1 at *
  have hob : Blk w1 ob (List.toArray [.int .i64 5, .int .i64 a, .int .i64 c, .string s, .string bb, .slice la L.length lc, .slice ma M.length mc, .slice da Dd.length dc]) TOp := HPA.out.head
  have op0 := hob.cell 0
  have op1 := hob.cell 1
  simp only [List.getElem?_toArray, List.getElem?_cons_zero, List.getElem?_cons_succ] at op0 op1
  clear hob
  have hbd := law_blk (X := blkPart ob _ TOp :: X) HPA.out
  have hss := law_ss (X := blkPart ob _ TOp :: X) HPA.out
  obtain ⟨sa, sc, hsv, hs1, hs2⟩ := hss.shape
  unfold maxLen at hs2
  have c0 : w1.cell? ⟨D.b, 0, none⟩ = some (.slice sa D.ps.length sc) := by rw [← hsv]; exact hbd.cell 0
  rw [hsv] at hss
  have HSS := Lib.hid hss
  have HSV := Lib.hid hsv
  clear hsv hss hbd
  by_cases hz : D.ps.length = 0
  · rw [hz] at c0
    have HPB := HPA
    go_wp2_with fail
    go_ret
    exact ⟨rfl, D, LD.Next.refl D, HPB.out.tail⟩
  · obtain ⟨kk, hkk, hkk2⟩ := pick_range a (D.ps.length : Int) (by omega)
    have hkk3 : kk < D.ps.length := by omega
    obtain ⟨p, hp⟩ : ∃ p, D.ps[kk]? = some p := ⟨_, List.getElem?_eq_getElem hkk3⟩
    have HPK : Hid (∀ wx, Calls Tryz.prog 60 #[.int .i64 a, .int .i64 D.ps.length] wx fun e w' => e = .returned (.int .i64 kk) ∧ wx = w') := fun wx => by
      have := pick_any a (D.ps.length : Int) wx hia.1 hia.2 (by omega) (by omega)
      rw [hkk] at this
      exact this
    have HMEM : Hid (p ∈ D.ps) := List.mem_of_getElem? hp
    obtain ⟨b', o', c', hsh, -, -, -, hltb, hcc, -⟩ := HSS.out.pos (by omega)
    obtain ⟨rfl, rfl⟩ : sa = some ⟨b', o', none⟩ ∧ sc = c' := by cases hsh; exact ⟨rfl, rfl⟩
    clear hsh
    have hat := prCells_at D.ps kk p hp
    have s0 : w1.cell? ⟨b', o' + kk * 2, none⟩ = some (pv p.x) := (hcc _ (by omega)).trans hat.1
    have s1 : w1.cell? ⟨b', o' + kk * 2 + 1, none⟩ = some (pv p.r) := by rw [Nat.add_assoc]; exact (hcc _ (by omega)).trans hat.2
    obtain ⟨px, st, r, F, G, E⟩ := p
    unfold pv at s0 s1
    simp only at s0 s1
    have q2 : (0 : Int) ≤ (kk : Int) := by omega
    have q3 : (kk : Int) < (D.ps.length : Int) := by omega
    clear hcc hat hp hkk hkk2
    go_upto_region 10 with (fail)
    have HCC : Hid (∀ wx, Keeps Non w1 wx → wx.cell? ⟨D.b, 0, none⟩ = some (.slice (some ⟨b', o', none⟩) D.ps.length sc) ∧ wx.cell? ⟨ob, 1, none⟩ = some (.int .i64 a) ∧ wx.cell? ⟨b', o' + kk * 2, none⟩ = some (.pointer (some ⟨px, 0, none⟩)) ∧ wx.cell? ⟨b', o' + kk * 2 + 1, none⟩ = some (.pointer (some ⟨r, 0, none⟩))) := fun wx hk => by
      have hbl := hk.below (Nat.le_refl _) (fun _ _ h => h)
      have h1 := (law_blk (X := blkPart ob _ TOp :: X) HPA.out).keeps hk fun h => h
      have h2 : Blk wx ob (List.toArray [.int .i64 5, .int .i64 a, .int .i64 c, .string s, .string bb, .slice la L.length lc, .slice ma M.length mc, .slice da Dd.length dc]) TOp := (show Blk w1 ob _ TOp from HPA.out.head).keeps hk fun h => h
      refine ⟨?_, h2.cell 1, (hbl.cell (p := ⟨b', o' + kk * 2, none⟩) hltb).trans s0, (hbl.cell (p := ⟨b', o' + kk * 2 + 1, none⟩) hltb).trans s1⟩
      rw [← HSV.out]
      exact h1.cell 0
    have q4 : IntKind.i64.wrap (kk : Int) = (kk : Int) := IntWalk.i64_in _ (by omega)
    have hc : Keeps Non w1 w1 := Keeps.refl _ _
    go_cut [6] (fun v6 wx => ∃ pb, v6 = .pointer (some ⟨pb, 0, none⟩) ∧ Hid (Parts (blkPart pb #[.pointer (some ⟨px, 0, none⟩), .pointer (some ⟨r, 0, none⟩)] TPr :: blkPart ob (List.toArray [.int .i64 5, .int .i64 a, .int .i64 c, .string s, .string bb, .slice la L.length lc, .slice ma M.length mc, .slice da Dd.length dc]) TOp :: (X ++ lawParts D)) wx))
    case first =>
      go_region_held3 (fun w' => w'.cell? ⟨D.b, 0, none⟩ = some (.slice (some ⟨b', o', none⟩) D.ps.length sc) ∧ w'.cell? ⟨ob, 1, none⟩ = some (.int .i64 a) ∧ w'.cell? ⟨b', o' + kk * 2, none⟩ = some (.pointer (some ⟨px, 0, none⟩)) ∧ w'.cell? ⟨b', o' + kk * 2 + 1, none⟩ = some (.pointer (some ⟨r, 0, none⟩))) (first | exact ⟨c0, op1, s0, s1⟩ | exact HCC.out _ hc | exact HCC.out _ hc.drew | exact HCC.out _ (hc.alloc _) | exact HCC.out _ (hc.drew.alloc _)) (first
          | (go_at_call 60
             refine (HPK.out _).mono ?_
             rintro e w2 ⟨rfl, rfl⟩))
      all_goals (
        go_wp2_with fail
        go_meet
        first
          | exact ⟨_, rfl, HPA.out.blk _ _⟩
          | exact ⟨_, rfl, (HPA.out.blk _ _).non (Keeps.refl _ _).drew⟩
          | exact ⟨_, rfl, (HPA.out.non (Keeps.refl _ _).drew).blk _ _⟩
          | exact ⟨_, rfl, ((HPA.out.non (Keeps.refl _ _).drew).blk _ _).non (Keeps.refl _ _).drew⟩
          | exact ⟨_, rfl, (HPA.out.blk _ _).non ((Keeps.refl _ _).drewN _)⟩
          | exact ⟨_, rfl, ((HPA.out.non ((Keeps.refl _ _).drewN _)).blk _ _).non ((Keeps.refl _ _).drewN _)⟩)
    case rest =>
      obtain ⟨pb, hsh, HP⟩ := hcut
      subst hsh
      clear s0 s1 c0 op0 op1 HSS HSV HPK HPA HCC hc
      generalize wc = w2 at *
      have hob : Blk w2 ob (List.toArray [.int .i64 5, .int .i64 a, .int .i64 c, .string s, .string bb, .slice la L.length lc, .slice ma M.length mc, .slice da Dd.length dc]) TOp := HP.out.all (blkPart ob _ TOp) (by simp)
      have hpb : Blk w2 pb #[.pointer (some ⟨px, 0, none⟩), .pointer (some ⟨r, 0, none⟩)] TPr := HP.out.head
      have hpr := law_pr (X := blkPart pb _ TPr :: blkPart ob _ TOp :: X) HP.out HMEM.out
      have HPR := Lib.hid hpr
      have op0 := hob.cell 0
      have op3 := hob.cell 3
      have op5 := hob.cell 5
      have op6 := hob.cell 6
      have p0 := hpb.cell 0
      have p1 := hpb.cell 1
      have x0 := hpr.box.cell 0
      unfold pv at x0
      simp only [List.getElem?_toArray, List.getElem?_cons_zero, List.getElem?_cons_succ] at op0 op3 op5 op6 p0 p1 x0
      clear hob hpb hpr
      have HSN : Hid (∀ wx, Keeps Non w2 wx → StoreAt wx F st E) := fun wx hk => HPR.out.st.non hk
      have HRD : Hid (∀ wx, Keeps Non w2 wx → Rd wx 1 (.slice ma M.length mc) M.length (svs M)) := fun wx hk => ((HIN.out.op.low (law_low (X := blkPart pb _ TPr :: blkPart ob _ TOp :: X) HP.out (List.mem_cons_of_mem _ (List.mem_cons_of_mem _ HIN.out.low)))).rm).non hk
      have HNM : Hid (∀ r ∈ M, r.length ≤ 1099511627776) := fun r hr => by have := HIN.out.op.nm r hr; omega
      have HCL : Hid (∀ wx, Keeps Non w2 wx → Calls Tryz.prog 18 #[.pointer (some ⟨st, 0, none⟩), .slice ma M.length mc] wx (ClosPost wx E M)) := fun wx hk => closure_any wx (HSN.out wx hk) M _ (HRD.out wx hk) (by omega) HNM.out
      have HCC : Hid (∀ wx, Keeps Non w2 wx → wx.cell? ⟨pb, 0, none⟩ = some (.pointer (some ⟨px, 0, none⟩)) ∧ wx.cell? ⟨px, 0, none⟩ = some (.pointer (some ⟨st, 0, none⟩)) ∧ wx.cell? ⟨ob, 6, none⟩ = some (.slice ma M.length mc)) := fun wx hk => by
        have h := HP.out.non hk
        have hob : Blk wx ob (List.toArray [.int .i64 5, .int .i64 a, .int .i64 c, .string s, .string bb, .slice la L.length lc, .slice ma M.length mc, .slice da Dd.length dc]) TOp := h.all (blkPart ob _ TOp) (by simp)
        have hpb : Blk wx pb #[.pointer (some ⟨px, 0, none⟩), .pointer (some ⟨r, 0, none⟩)] TPr := h.head
        have hpr := law_pr (X := blkPart pb _ TPr :: blkPart ob _ TOp :: X) h HMEM.out
        exact ⟨hpb.cell 0, hpr.box.cell 0, hob.cell 6⟩
      have hc : Keeps Non w2 w2 := Keeps.refl _ _
      go_upto_region 28 with (fail)
      go_cut [13, 14] (fun v ev wx => ∃ (ca : Option Addr) (cn : Nat) (T : List (List UInt8)) (er : Int), v = .slice ca T.length cn ∧ ev = .int .i64 er ∧ Hid (Keeps Non w2 wx) ∧ Hid (Sl wx w2.heap.size 9 1 (.slice ca T.length cn) T.length (svs T)) ∧
        Hid (((∃ r ∈ M, findE E r = none) ∧ er = 15 ∧ T = []) ∨ ((∀ r ∈ M, (findE E r).isSome = true) ∧ ∃ K, ReachOf E M K ∧ er = 0 ∧ T = closL E K)))
      case first =>
        go_region_held3 (fun w' => w'.cell? ⟨pb, 0, none⟩ = some (.pointer (some ⟨px, 0, none⟩)) ∧ w'.cell? ⟨px, 0, none⟩ = some (.pointer (some ⟨st, 0, none⟩)) ∧ w'.cell? ⟨ob, 6, none⟩ = some (.slice ma M.length mc)) (first | exact ⟨p0, x0, op6⟩ | exact HCC.out _ hc | exact HCC.out _ hc.drew) (first
          | (go_at_call 18
             refine (HCL.out _ (by first | exact hc | exact hc.drew)).mono ?_
             rintro e w3 hp
             have hp2 := closP hp
             clear hp
             obtain ⟨ca, cn, T, er, rfl, hs3, hk3, hcs⟩ := hp2
             replace hs3 : Sl w3 w2.heap.size 9 1 (.slice ca T.length cn) T.length (svs T) := by first | exact hs3 | exact hs3.mono hc.size
             replace hc := Keeps.tn hc (by first | exact hk3 | exact hk3.un)
             clear hk3
             obtain ⟨p0, x0, op6⟩ := HCC.out _ hc))
        all_goals (
          go_wp2_with fail
          go_meet
          exact ⟨ca, cn, T, er, rfl, rfl, by first | exact hc | exact hc.drew, by first | exact hs3 | exact hs3.drewN 1, hcs⟩)
      case rest =>
        obtain ⟨ca, cn, T, er, rfl, rfl, HK3, HS3, HCS⟩ := hcut
        generalize wc = w3 at *
        have hp3 : Parts (slPart TStr 1 (.slice ca T.length cn) T.length (svs T) :: ((blkPart pb #[.pointer (some ⟨px, 0, none⟩), .pointer (some ⟨r, 0, none⟩)] TPr :: blkPart ob (List.toArray [.int .i64 5, .int .i64 a, .int .i64 c, .string s, .string bb, .slice la L.length lc, .slice ma M.length mc, .slice da Dd.length dc]) TOp :: X) ++ lawParts D)) w3 := HP.out.put HK3.out HS3.out
        have HP3 := Lib.hid hp3
        have hob : Blk w3 ob (List.toArray [.int .i64 5, .int .i64 a, .int .i64 c, .string s, .string bb, .slice la L.length lc, .slice ma M.length mc, .slice da Dd.length dc]) TOp := hp3.all (blkPart ob _ TOp) (by simp)
        have hpb : Blk w3 pb #[.pointer (some ⟨px, 0, none⟩), .pointer (some ⟨r, 0, none⟩)] TPr := hp3.tail.head
        have t6 := hob.cell 6
        have t1 := hpb.cell 1
        simp only [List.getElem?_toArray, List.getElem?_cons_zero, List.getElem?_cons_succ] at t6 t1
        have HRC : Hid (Calls Tryz.prog 67 #[.pointer (some ⟨r, 0, none⟩), .slice ma M.length mc] w3 (QClosPost w3 E M)) := rclosure_any w3 (HPR.out.qt.non HK3.out) HPR.out.st.ok HPR.out.st.fit M _ (HRD.out w3 HK3.out) (by omega)
        have HTL : Hid (T.length ≤ 1099511627776) := by
          show _ ≤ _
          rcases HCS.out with ⟨_, _, rfl⟩ | ⟨_, K, hK, _, rfl⟩
          · simp
          · have h1 := toldc_len (closL_told E K)
            have := HPR.out.st.ok.ten
            simp only at this
            omega
        clear hp3 hob hpb p0 p1 x0 op0 op3 op5 op6 hc HCC HCL HSN HRD HP HK3
        go_wp2_with fail
        refine HRC.out.mono ?_
        rintro e w4 hq
        have HB : Hid (∃ (da2 : Option Addr) (dn : Nat), e = .returned (.tuple #[.slice da2 T.length dn, .int .i64 er]) ∧ Rd w4 1 (.slice da2 T.length dn) T.length (svs T) ∧ Keeps Non w3 w4) := by
          show ∃ _, _
          rcases HCS.out with ⟨⟨y, hy, hyn⟩, rfl, rfl⟩ | ⟨hall, K, hK, rfl, rfl⟩
          · rcases hq with ⟨-, rfl, hk⟩ | ⟨hall, -⟩
            · exact ⟨none, 0, rfl, (Sl.nil w4 0 9 1).rd, hk⟩
            · have := hall y hy
              rw [hyn] at this
              cases this
          · rcases hq with ⟨⟨y, hy, hyn⟩, -⟩ | ⟨-, hq⟩
            · have := hall y hy
              rw [hyn] at this
              cases this
            · obtain ⟨v, rfl, hs, hk⟩ := hq K hK
              obtain ⟨a1, c1, rfl, -, -⟩ := hs.shape
              exact ⟨a1, c1, rfl, hs.rd, hk⟩
        obtain ⟨da2, dn, rfl, hr4, hk4⟩ := HB.out
        have HP4 := Lib.hid (HP3.out.non hk4)
        have HR4 := Lib.hid hr4
        have HR3 : Hid (Rd w4 1 (.slice ca T.length cn) T.length (svs T)) := (show Sl w4 0 TStr 1 _ _ _ from HP4.out.head).rd
        have herr : ((er : Int) == er) = true := beq_self_eq_true _
        clear hq HB hr4 hk4 HP3 HRC t6 t1 HS3 HCS
        go_wp2_with fail
        refine (ltext_any T T _ _ w4 HR3.out HR4.out).mono ?_
        rintro e w5 ⟨rfl, nd, rfl⟩
        have HP5 := Lib.hid (HP4.out.non ((Keeps.refl _ _).drewN nd))
        have heq : (T == T) = true := beq_self_eq_true _
        rw [heq]
        clear heq HP4 HR3 HR4
        go_wp2_with fail
        refine (mine_any (blkPart pb #[.pointer (some ⟨px, 0, none⟩), .pointer (some ⟨r, 0, none⟩)] TPr :: blkPart ob (List.toArray [.int .i64 5, .int .i64 a, .int .i64 c, .string s, .string bb, .slice la L.length lc, .slice ma M.length mc, .slice da Dd.length dc]) TOp :: X) D _ _ _ _ HP5.out HTL.out hnl).mono ?_
        rintro e w6 ⟨rfl, vls', v', hp6⟩
        have HP6 := Lib.hid hp6
        clear hp6
        go_wp2_with fail
        go_ret
        exact ⟨rfl, _, LD.next_mined D _ _ _, HP6.out.tail.tail⟩

set_option maxHeartbeats 6400000 in
set_option maxRecDepth 100000 in
theorem step_none {X : List Part} {D : LD} {w W0 : World} {o : OpV} (hin : StepIn X D w W0 o) (hkind : o.kind ≤ 0) :
    Calls Tryz.prog 32 #[pv D.b, .agg (opC o).toArray] w (StepPost X D) := by
  obtain ⟨kind, a, c, s, bb, vl, vm, vd, L, M, Dd⟩ := o
  simp only at hkind
  have g1 : (kind == 1) = false := by rw [beq_eq_false_iff_ne]; omega
  have g2 : (kind == 2) = false := by rw [beq_eq_false_iff_ne]; omega
  have g3 : (kind == 3) = false := by rw [beq_eq_false_iff_ne]; omega
  have g4 : (kind == 4) = false := by rw [beq_eq_false_iff_ne]; omega
  have g5 : (kind == 5) = false := by rw [beq_eq_false_iff_ne]; omega
  have g6 : (kind == 6) = false := by rw [beq_eq_false_iff_ne]; omega
  have g7 : (kind == 7) = false := by rw [beq_eq_false_iff_ne]; omega
  obtain ⟨la, lc, hsl, hl1, hl2⟩ := hin.op.rl.shape
  obtain ⟨ma, mc, hsm, hm1, hm2⟩ := hin.op.rm.shape
  obtain ⟨da, dc, hsd, hd1, hd2⟩ := hin.op.rd.shape
  simp only at hsl hsm hsd hl1 hm1 hd1
  subst hsl hsm hsd
  have HIN := Lib.hid hin
  have hnp := hin.np
  have hnl := hin.nl
  have hnt := hin.nt
  have hLL := hin.op.ll
  have hML := hin.op.lm
  have hSL := hin.op.ls
  have hia := hin.op.ia
  simp only at hLL hML hSL hia
  unfold maxLen at hl2 hm2 hd2
  have HPA : Hid (Parts (blkPart w.heap.size (opC ⟨kind, a, c, s, bb, .slice la L.length lc, .slice ma M.length mc, .slice da Dd.length dc, L, M, Dd⟩).toArray TOp :: (X ++ lawParts D)) (w.alloc (.cells (opC ⟨kind, a, c, s, bb, .slice la L.length lc, .slice ma M.length mc, .slice da Dd.length dc, L, M, Dd⟩).toArray TOp))) := hin.parts.blk _ _
  clear hin
  unfold pv opC at *
  go_enter Tryz.func32, Tryz.ntmps32
  go_upto_region 1 with (fail)
  generalize w.heap.size = ob at *
  generalize w.alloc (.cells (List.toArray [.int .i64 kind, .int .i64 a, .int .i64 c, .string s, .string bb, .slice la L.length lc, .slice ma M.length mc, .slice da Dd.length dc]) 67) = w1 at *
  have hob : Blk w1 ob (List.toArray [.int .i64 kind, .int .i64 a, .int .i64 c, .string s, .string bb, .slice la L.length lc, .slice ma M.length mc, .slice da Dd.length dc]) TOp := HPA.out.head
  have op0 := hob.cell 0
  have op1 := hob.cell 1
  simp only [List.getElem?_toArray, List.getElem?_cons_zero, List.getElem?_cons_succ] at op0 op1
  clear hob
  have hbd := law_blk (X := blkPart ob _ TOp :: X) HPA.out
  have hss := law_ss (X := blkPart ob _ TOp :: X) HPA.out
  obtain ⟨sa, sc, hsv, hs1, hs2⟩ := hss.shape
  unfold maxLen at hs2
  have c0 : w1.cell? ⟨D.b, 0, none⟩ = some (.slice sa D.ps.length sc) := by rw [← hsv]; exact hbd.cell 0
  rw [hsv] at hss
  have HSS := Lib.hid hss
  have HSV := Lib.hid hsv
  clear hsv hss hbd
  by_cases hz : D.ps.length = 0
  · rw [hz] at c0
    have HPB := HPA
    go_wp2_with fail
    go_ret
    exact ⟨rfl, D, LD.Next.refl D, HPB.out.tail⟩
  · obtain ⟨kk, hkk, hkk2⟩ := pick_range a (D.ps.length : Int) (by omega)
    have hkk3 : kk < D.ps.length := by omega
    obtain ⟨p, hp⟩ : ∃ p, D.ps[kk]? = some p := ⟨_, List.getElem?_eq_getElem hkk3⟩
    have HPK : Hid (∀ wx, Calls Tryz.prog 60 #[.int .i64 a, .int .i64 D.ps.length] wx fun e w' => e = .returned (.int .i64 kk) ∧ wx = w') := fun wx => by
      have := pick_any a (D.ps.length : Int) wx hia.1 hia.2 (by omega) (by omega)
      rw [hkk] at this
      exact this
    have HMEM : Hid (p ∈ D.ps) := List.mem_of_getElem? hp
    obtain ⟨b', o', c', hsh, -, -, -, hltb, hcc, -⟩ := HSS.out.pos (by omega)
    obtain ⟨rfl, rfl⟩ : sa = some ⟨b', o', none⟩ ∧ sc = c' := by cases hsh; exact ⟨rfl, rfl⟩
    clear hsh
    have hat := prCells_at D.ps kk p hp
    have s0 : w1.cell? ⟨b', o' + kk * 2, none⟩ = some (pv p.x) := (hcc _ (by omega)).trans hat.1
    have s1 : w1.cell? ⟨b', o' + kk * 2 + 1, none⟩ = some (pv p.r) := by rw [Nat.add_assoc]; exact (hcc _ (by omega)).trans hat.2
    obtain ⟨px, st, r, F, G, E⟩ := p
    unfold pv at s0 s1
    simp only at s0 s1
    have q2 : (0 : Int) ≤ (kk : Int) := by omega
    have q3 : (kk : Int) < (D.ps.length : Int) := by omega
    clear hcc hat hp hkk hkk2
    go_upto_region 10 with (fail)
    have HCC : Hid (∀ wx, Keeps Non w1 wx → wx.cell? ⟨D.b, 0, none⟩ = some (.slice (some ⟨b', o', none⟩) D.ps.length sc) ∧ wx.cell? ⟨ob, 1, none⟩ = some (.int .i64 a) ∧ wx.cell? ⟨b', o' + kk * 2, none⟩ = some (.pointer (some ⟨px, 0, none⟩)) ∧ wx.cell? ⟨b', o' + kk * 2 + 1, none⟩ = some (.pointer (some ⟨r, 0, none⟩))) := fun wx hk => by
      have hbl := hk.below (Nat.le_refl _) (fun _ _ h => h)
      have h1 := (law_blk (X := blkPart ob _ TOp :: X) HPA.out).keeps hk fun h => h
      have h2 : Blk wx ob (List.toArray [.int .i64 kind, .int .i64 a, .int .i64 c, .string s, .string bb, .slice la L.length lc, .slice ma M.length mc, .slice da Dd.length dc]) TOp := (show Blk w1 ob _ TOp from HPA.out.head).keeps hk fun h => h
      refine ⟨?_, h2.cell 1, (hbl.cell (p := ⟨b', o' + kk * 2, none⟩) hltb).trans s0, (hbl.cell (p := ⟨b', o' + kk * 2 + 1, none⟩) hltb).trans s1⟩
      rw [← HSV.out]
      exact h1.cell 0
    have q4 : IntKind.i64.wrap (kk : Int) = (kk : Int) := IntWalk.i64_in _ (by omega)
    have hc : Keeps Non w1 w1 := Keeps.refl _ _
    go_cut [6] (fun v6 wx => ∃ pb, v6 = .pointer (some ⟨pb, 0, none⟩) ∧ Hid (Parts (blkPart pb #[.pointer (some ⟨px, 0, none⟩), .pointer (some ⟨r, 0, none⟩)] TPr :: blkPart ob (List.toArray [.int .i64 kind, .int .i64 a, .int .i64 c, .string s, .string bb, .slice la L.length lc, .slice ma M.length mc, .slice da Dd.length dc]) TOp :: (X ++ lawParts D)) wx))
    case first =>
      go_region_held3 (fun w' => w'.cell? ⟨D.b, 0, none⟩ = some (.slice (some ⟨b', o', none⟩) D.ps.length sc) ∧ w'.cell? ⟨ob, 1, none⟩ = some (.int .i64 a) ∧ w'.cell? ⟨b', o' + kk * 2, none⟩ = some (.pointer (some ⟨px, 0, none⟩)) ∧ w'.cell? ⟨b', o' + kk * 2 + 1, none⟩ = some (.pointer (some ⟨r, 0, none⟩))) (first | exact ⟨c0, op1, s0, s1⟩ | exact HCC.out _ hc | exact HCC.out _ hc.drew | exact HCC.out _ (hc.alloc _) | exact HCC.out _ (hc.drew.alloc _)) (first
          | (go_at_call 60
             refine (HPK.out _).mono ?_
             rintro e w2 ⟨rfl, rfl⟩))
      all_goals (
        go_wp2_with fail
        go_meet
        first
          | exact ⟨_, rfl, HPA.out.blk _ _⟩
          | exact ⟨_, rfl, (HPA.out.blk _ _).non (Keeps.refl _ _).drew⟩
          | exact ⟨_, rfl, (HPA.out.non (Keeps.refl _ _).drew).blk _ _⟩
          | exact ⟨_, rfl, ((HPA.out.non (Keeps.refl _ _).drew).blk _ _).non (Keeps.refl _ _).drew⟩
          | exact ⟨_, rfl, (HPA.out.blk _ _).non ((Keeps.refl _ _).drewN _)⟩
          | exact ⟨_, rfl, ((HPA.out.non ((Keeps.refl _ _).drewN _)).blk _ _).non ((Keeps.refl _ _).drewN _)⟩)
    case rest =>
      obtain ⟨pb, hsh, HP⟩ := hcut
      subst hsh
      clear s0 s1 c0 op0 op1 HSS HSV HPK HPA HCC hc
      generalize wc = w2 at *
      have hob : Blk w2 ob (List.toArray [.int .i64 kind, .int .i64 a, .int .i64 c, .string s, .string bb, .slice la L.length lc, .slice ma M.length mc, .slice da Dd.length dc]) TOp := HP.out.all (blkPart ob _ TOp) (by simp)
      have hpb : Blk w2 pb #[.pointer (some ⟨px, 0, none⟩), .pointer (some ⟨r, 0, none⟩)] TPr := HP.out.head
      have hpr := law_pr (X := blkPart pb _ TPr :: blkPart ob _ TOp :: X) HP.out HMEM.out
      have HPR := Lib.hid hpr
      have op0 := hob.cell 0
      have op3 := hob.cell 3
      have op5 := hob.cell 5
      have op6 := hob.cell 6
      have p0 := hpb.cell 0
      have p1 := hpb.cell 1
      have x0 := hpr.box.cell 0
      unfold pv at x0
      simp only [List.getElem?_toArray, List.getElem?_cons_zero, List.getElem?_cons_succ] at op0 op3 op5 op6 p0 p1 x0
      clear hob hpb hpr
      clear HIN
      go_wp2_with fail
      go_ret
      exact ⟨rfl, D, LD.Next.refl D, HP.out.tail.tail⟩

/-- a step of a kind that is built ahead of Export -/
theorem step_any {X : List Part} {D : LD} {w W0 : World} {o : OpV} (hin : StepIn X D w W0 o) (hk : o.kind ≤ 5) :
    Calls Tryz.prog 32 #[pv D.b, .agg (opC o).toArray] w (StepPost X D) := by
  rcases (by omega : o.kind ≤ 0 ∨ o.kind = 1 ∨ o.kind = 2 ∨ o.kind = 3 ∨ o.kind = 4 ∨ o.kind = 5) with h | h | h | h | h | h
  · exact step_none hin h
  · exact step_new hin h
  · exact step_ins hin h
  · exact step_get hin h
  · exact step_paths hin h
  · exact step_clos hin h
end Go.Proofs.YtdkogijdfgfpeaaGreatDoor
