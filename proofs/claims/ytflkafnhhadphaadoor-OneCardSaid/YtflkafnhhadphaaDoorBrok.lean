/- narkeep.Broken: the walk. -/
import Derived.Test.YtflkafnhhadphaaDoorChecked
import Derived.Test.YtflkafnhhadphaaDoorGrow
namespace Go.Proofs.YtflkafnhhadphaaDoor
open Go Go.RowKit
set_option linter.unusedVariables false

def pickN (c n : Int) : Int := (if c < 0 then -(c + 1) else c) % n
set_option maxRecDepth 100000 in
theorem pick_any (c n : Int) (w : World) (hc1 : -9223372036854775808 ≤ c) (hc2 : c ≤ 9223372036854775807) (hn : 0 < n) (hn2 : n ≤ 1000000) :
    Calls Tryd.prog 14 #[.int .i64 c, .int .i64 n] w fun e w' => e = .returned (.int .i64 (pickN c n)) ∧ w = w' := by
  by_cases h : c < 0
  · have HP : Hid (pickN c n = (-(c + 1)) % n) := by show _ = _; rw [pickN, if_pos h]
    have hz : ¬ n = 0 := by omega
    go_enter Tryd.func14, Tryd.ntmps14
    go_wp2_with fail
    go_ret
    exact ⟨int_ret (by rw [HP.out, ← Int.neg_tmod, Int.tmod_eq_emod_of_nonneg (by omega)]), rfl⟩
  · have HP : Hid (pickN c n = c % n) := by show _ = _; rw [pickN, if_neg h]
    have h0 : 0 ≤ c := by omega
    have hz : ¬ n = 0 := by omega
    go_enter Tryd.func14, Tryd.ntmps14
    go_wp2_with fail
    go_ret
    exact ⟨int_ret HP.out.symm, rfl⟩
theorem pick_range (c n : Int) (hn : 0 < n) : ∃ k : Nat, pickN c n = k ∧ (k : Int) < n := by
  unfold pickN
  refine ⟨((if c < 0 then -(c + 1) else c) % n).toNat, ?_, ?_⟩
  · rw [Int.toNat_of_nonneg (Int.emod_nonneg _ (by omega))]
  · rw [Int.toNat_of_nonneg (Int.emod_nonneg _ (by omega))]
    exact Int.emod_lt_of_pos _ hn
theorem Grown.len {l : List Node} (h : Grown l) : 0 < l.length ∧ l.length ≤ 30 := by
  refine ⟨List.length_pos_iff.2 h.ne, ?_⟩
  have hw := h.good
  unfold wrongL at hw
  rw [if_neg h.ne] at hw
  have := wrong_len l 0 [] hw (by omega)
  omega
theorem sum_le (l : List Node) (c : Nat) (h : ∀ x ∈ l, x.path.length + x.data.length ≤ c) : (l.map fun x => x.path.length + x.data.length).sum ≤ c * l.length := by
  induction l with
  | nil => simp
  | cons x r ih =>
    have h1 := h x (by simp)
    have h2 := ih fun y hy => h y (by simp [hy])
    simp only [List.map_cons, List.sum_cons, List.length_cons, Nat.mul_add]
    omega
theorem Grown.small {l : List Node} (h : Grown l) : NodesSmall l ∧ (packP l).length ≤ 100000 := by
  refine ⟨fun n hn => by have := h.short n hn; omega, ?_⟩
  have h1 := packP_len l
  have h2 := sum_le l 136 fun x hx => by have := h.short x hx; omega
  have h3 := h.len
  omega
theorem brk_small (b : Nat) (prev x : Node) (hx : x.path.length ≤ 36 ∧ x.data.length ≤ 100) (hp : prev.path.length ≤ 36) : (brk b prev x).path.length ≤ 1099511627776 ∧ (brk b prev x).data.length ≤ 1099511627776 := by
  unfold brk
  repeat' split
  all_goals simp
  all_goals omega

theorem nodeCells_set (l : List Node) (j : Nat) (hj : j < l.length) (X : Node) : nodeCells (l.set j X) = (((nodeCells l).set (j * 3) (sv X.path)).set (j * 3 + 1) (.int .i64 X.kind)).set (j * 3 + 2) (sv X.data) := by
  have e1 : l.set j X = l.take j ++ (X :: l.drop (j + 1)) := by rw [List.set_eq_take_append_cons_drop, if_pos hj]
  have e2 : l = l.take j ++ (l[j] :: l.drop (j + 1)) := by rw [← List.drop_eq_getElem_cons hj, List.take_append_drop]
  have hl : (nodeCells (l.take j)).length = j * 3 := by rw [nodeCells_length, List.length_take]; omega
  have h3 : ∀ (x : Node) (r : List Node), nodeCells (x :: r) = sv x.path :: .int .i64 x.kind :: sv x.data :: nodeCells r := fun x r => rfl
  rw [e1, nodeCells_append, h3]
  conv => rhs; rw [e2, nodeCells_append, h3]
  generalize nodeCells (l.take j) = A at *
  rw [← hl, List.set_append_right _ _ (Nat.le_refl _), List.set_append_right _ _ (by omega), List.set_append_right _ _ (by omega)]
  simp only [Nat.sub_self, show A.length + 1 - A.length = 1 by omega, show A.length + 2 - A.length = 2 by omega]
  rfl

theorem pickN_nat (c n : Int) (hn : 0 < n) : ∃ k : Nat, pickN c n = k ∧ (k : Int) < n := pick_range c n hn

set_option maxHeartbeats 4000000 in
set_option maxRecDepth 100000 in
theorem broken_walk (s : ByteArray) (k how : Int) (w : World) (hT : Tabs w) (hs47 : s.size ≤ 140737488355328) (hk1 : -9223372036854775808 ≤ k) (hk2 : k ≤ 9223372036854775807) (hh1 : -9223372036854775808 ≤ how) (hh2 : how ≤ 9223372036854775807) :
    Calls Tryd.prog 4 #[.string s, .int .i64 k, .int .i64 how] w fun e w' => e = .returned (.bool true) ∧ Keeps Non w w' := by
  by_cases hs : 16384 < s.size
  · go_enter Tryd.func4, Tryd.ntmps4
    go_wp2_with fail
    go_ret
    exact ⟨rfl, Keeps.refl _ _⟩
  · have HT := Lib.hid hT
    clear hT
    go_enter Tryd.func4, Tryd.ntmps4
    go_wp2_with fail
    refine (grown_any s _ (by omega)).mono ?_
    rintro e w1 ⟨v, l, rfl, hg, hsl, hk⟩
    obtain ⟨al, cl, rfl, hl1, hl2⟩ := hsl.shape
    unfold maxLen at hl2
    have HG := Lib.hid hg
    have HSL : Hid (Sl w1 w.heap.size 34 3 (.slice al l.length cl) l.length (nodeCells l)) := hsl
    have HK := Lib.hid hk
    obtain ⟨hlp, hl30⟩ := hg.len
    have HSM := Lib.hid hg.small
    clear hg hsl hk
    go_wp2_with fail
    refine (npack_good _ l _ HSL.out.rd (HT.out.keeps HK.out) HSM.out.1 HG.out.good (Nat.le_trans HSM.out.2 (by omega))).mono ?_
    rintro e w2 ⟨rfl, hk⟩
    have HK2 : Hid (Keeps Non w w2) := HK.out.trans hk (fun k hk => .inl hk)
    have HSL2 : Hid (Sl w2 w.heap.size 34 3 (.slice al l.length cl) l.length (nodeCells l)) := HSL.out.keep fun b c _ _ hb => hb.keeps hk (fun h => h)
    have HB : Hid (packP l ≠ []) := packP_ne l
    generalize packP l = PB at *
    clear hk HSL HK
    go_wp2_with fail
    refine (pick_any k (l.length : Int) _ hk1 hk2 (by omega) (by omega)).mono ?_
    rintro e w' ⟨rfl, rfl⟩
    obtain ⟨j, hj, hjl⟩ := pickN_nat k (l.length : Int) (by omega)
    rw [hj]
    have hjl' : j < l.length := by omega
    obtain ⟨b, off, cp, hsh, hB, -, -, hlt, hc, hfz⟩ := HSL2.out.pos hlp
    cases hsh
    have hat := nodeCells_at l j hjl'
    have hx : l[j] = l[j] := rfl
    have c0 : w2.cell? ⟨b, off + j * 3, none⟩ = some (sv l[j].path) := (hc _ (by omega)).trans hat.1
    have c1 : w2.cell? ⟨b, off + j * 3 + 1, none⟩ = some (.int .i64 l[j].kind) := (hc _ (by omega)).trans hat.2.1
    have c2 : w2.cell? ⟨b, off + j * 3 + 2, none⟩ = some (sv l[j].data) := (hc _ (by omega)).trans hat.2.2
    have HXS := Lib.hid (HG.out.short l[j] (List.getElem_mem hjl'))
    have HGX : Hid (l[j]? = some l[j]) := List.getElem?_eq_getElem hjl'
    have HC := Lib.hid hc
    clear hat hj hx hc
    generalize l[j] = x at *
    obtain ⟨p, kd, da⟩ := x
    unfold sv at c0 c2
    simp only at c0 c1 c2
    have hp36 := HXS.out.1
    have hq36 : p.length ≤ 36 := HXS.out.2
    go_upto_region 9 with (fail)
    obtain ⟨w3, hw3⟩ : ∃ w3, w2.alloc (.cells #[.string ⟨p.toArray⟩, .int .i64 kd, .string ⟨da.toArray⟩] 34) = w3 := ⟨_, rfl⟩
    have HBX : Hid (Blk w3 w2.heap.size #[.string ⟨p.toArray⟩, .int .i64 kd, .string ⟨da.toArray⟩] 34) := by rw [← hw3]; exact Blk.new _ _ _
    have HSL3 : Hid (Sl w3 w.heap.size 34 3 (.slice (some ⟨b, off, none⟩) l.length cl) l.length (nodeCells l)) := by rw [← hw3]; exact HSL2.out.alloc _
    have HK3 : Hid (Keeps Non w w3) := by rw [← hw3]; exact HK2.out.alloc _
    have hbx : b ≠ w2.heap.size := Nat.ne_of_lt hlt
    have HWX : Hid (w.heap.size ≤ w2.heap.size) := HK2.out.size
    rw [hw3]
    clear hw3 c0 c1 c2 HC hfz HSL2 HK2 hlt
    generalize w2.heap.size = bx at *
    have n0 : w3.cell? ⟨bx, 0, none⟩ = some (.string ⟨p.toArray⟩) := HBX.out.cell 0
    have f0 : w3.frozen? ⟨bx, 0, none⟩ = false := HBX.out.free 0
    have f1 : w3.frozen? ⟨bx, 1, none⟩ = false := HBX.out.free 1
    have n1 : w3.cell? ⟨bx, 1, none⟩ = some (.int .i64 kd) := HBX.out.cell 1
    go_wp2_with fail
    refine (pick_any how 7 _ hh1 hh2 (by omega) (by omega)).mono ?_
    rintro e w' ⟨rfl, rfl⟩
    obtain ⟨h, hh, hh7⟩ := pickN_nat how 7 (by omega)
    rw [hh]
    clear hh
    go_upto_block 0 with (fail)
    have HSX : ∀ (q : Nat) (u : Value), Hid (Sl (w3.setCell ⟨bx, q, none⟩ u) w.heap.size 34 3 (.slice (some ⟨b, off, none⟩) l.length cl) l.length (nodeCells l) ∧ Keeps Non w (w3.setCell ⟨bx, q, none⟩ u)) := fun q u =>
      ⟨HSL3.out.keep fun b' c ho _ hb => hb.set_ne _ _ (by cases ho; exact hbx), HK3.out.setCell _ _ (.inr HWX.out)⟩
    have HSX' := Lib.hid HSX
    clear HSX
    go_cut [] (fun wx => ∃ (h : Nat) (prev : Node), h ≤ 6 ∧ Hid (h = 6 → 0 < j) ∧ Hid (h = 6 → l[j - 1]? = some prev) ∧ Hid (prev.path.length ≤ 36) ∧ Hid (Blk wx bx (nodeC (brk h prev ⟨p, kd, da⟩)).toArray 34) ∧ Hid (Sl wx w.heap.size 34 3 (.slice (some ⟨b, off, none⟩) l.length cl) l.length (nodeCells l)) ∧ Hid (Keeps Non w wx))
    case first =>
      rcases (by omega : h = 0 ∨ h = 1 ∨ h = 2 ∨ h = 3 ∨ h = 4 ∨ h = 5 ∨ h = 6) with rfl | rfl | rfl | rfl | rfl | rfl | rfl
      · go_wp2_with fail
        go_meet
        rw [show (⟨p.toArray⟩ : ByteArray) ++ ⟨#[47]⟩ = ⟨(p ++ [47]).toArray⟩ from str_app p [47]]
        exact ⟨0, ⟨[], 0, []⟩, by omega, fun h => absurd h (by decide), fun h => absurd h (by decide), Nat.zero_le _, HBX.out.set 0 _, (HSX'.out _ _).1, (HSX'.out _ _).2⟩
      · go_wp2_with fail
        go_meet
        rw [show (⟨p.toArray⟩ : ByteArray) ++ ⟨#[10]⟩ = ⟨(p ++ [10]).toArray⟩ from str_app p [10]]
        exact ⟨1, ⟨[], 0, []⟩, by omega, fun h => absurd h (by decide), fun h => absurd h (by decide), Nat.zero_le _, HBX.out.set 0 _, (HSX'.out _ _).1, (HSX'.out _ _).2⟩
      · go_wp2_with fail
        go_meet
        exact ⟨2, ⟨[], 0, []⟩, by omega, fun h => absurd h (by decide), fun h => absurd h (by decide), Nat.zero_le _, HBX.out.set 1 _, (HSX'.out _ _).1, (HSX'.out _ _).2⟩
      · go_wp2_with fail
        go_meet
        exact ⟨3, ⟨[], 0, []⟩, by omega, fun h => absurd h (by decide), fun h => absurd h (by decide), Nat.zero_le _, HBX.out.set 1 _, (HSX'.out _ _).1, (HSX'.out _ _).2⟩
      · go_wp2_with fail
        go_meet
        rw [show (⟨#[110, 111, 119, 104, 101, 114, 101, 47]⟩ : ByteArray) ++ ⟨p.toArray⟩ = ⟨([110, 111, 119, 104, 101, 114, 101, 47] ++ p).toArray⟩ from str_app [110, 111, 119, 104, 101, 114, 101, 47] p]
        exact ⟨4, ⟨[], 0, []⟩, by omega, fun h => absurd h (by decide), fun h => absurd h (by decide), Nat.zero_le _, HBX.out.set 0 _, (HSX'.out _ _).1, (HSX'.out _ _).2⟩
      · go_wp2_with fail
        go_meet
        rw [show (⟨#[47]⟩ : ByteArray) ++ ⟨p.toArray⟩ = ⟨([47] ++ p).toArray⟩ from str_app [47] p]
        exact ⟨5, ⟨[], 0, []⟩, by omega, fun h => absurd h (by decide), fun h => absurd h (by decide), Nat.zero_le _, HBX.out.set 0 _, (HSX'.out _ _).1, (HSX'.out _ _).2⟩
      · by_cases hj0 : j = 0
        · have hb : ((j : Int) == 0) = true := by rw [beq_iff_eq]; omega
          clear hj0
          go_wp2_with fail
          go_ret
          exact ⟨rfl, HK3.out⟩
        · have hb : ((j : Int) == 0) = false := by rw [beq_eq_false_iff_ne]; omega
          obtain ⟨m, hm⟩ : ∃ m, j = m + 1 := ⟨j - 1, by omega⟩
          have hq : (j : Int) - 1 = (m : Int) := by omega
          have hm1 : m < l.length := by omega
          have HJM := Lib.hid hm
          clear hm hj0
          obtain ⟨b', off', cp', hsh, -, -, -, -, hc, -⟩ := HSL3.out.pos hlp
          cases hsh
          have d0 : w3.cell? ⟨b, off + m * 3, none⟩ = some (sv l[m].path) := (hc _ (by omega)).trans (nodeCells_at l m hm1).1
          have hps := (HG.out.short l[m] (List.getElem_mem hm1)).2
          have HGM : Hid (l[m]? = some l[m]) := List.getElem?_eq_getElem hm1
          clear hc
          generalize l[m] = y at *
          obtain ⟨yp, yk, yd⟩ := y
          unfold sv at d0
          simp only at d0 hps
          have HPS := Lib.hid hps
          clear hps
          go_wp2_with fail
          go_meet
          exact ⟨6, ⟨yp, yk, yd⟩, by omega, fun _ => by have := HJM.out; omega, fun _ => by rw [show j - 1 = m by have := HJM.out; omega]; exact HGM.out, HPS.out, HBX.out.set 0 _, (HSX'.out _ _).1, (HSX'.out _ _).2⟩
    case rest =>
      clear HBX HSL3 HK3 HSX' n0 n1 f0 f1
      obtain ⟨h, prev, hh6, H0, HPR, HP36, HBX, HSL, HK⟩ := hcut
      have HBAD : Hid (wrongL (l.set j (brk h prev ⟨p, kd, da⟩)) = (j : Int)) := by
        show _ = _
        have hget : l[j] = ⟨p, kd, da⟩ := by have h1 := HGX.out; rw [List.getElem?_eq_getElem hjl'] at h1; exact Option.some.inj h1
        have := HG.out.broken hjl' h hh6 H0.out prev HPR.out
        rw [hget] at this
        exact this
      have HSM2 : Hid (NodesSmall (l.set j (brk h prev ⟨p, kd, da⟩))) := by
        intro n hn
        rcases List.mem_or_eq_of_mem_set hn with hn | rfl
        · exact HSM.out.1 n hn
        · exact brk_small h prev _ ⟨HXS.out.2, HXS.out.1⟩ HP36.out
      generalize brk h prev ⟨p, kd, da⟩ = X at *
      obtain ⟨xp, xk, xd⟩ := X
      have m0 : wc.cell? ⟨bx, 0, none⟩ = some (.string ⟨xp.toArray⟩) := HBX.out.cell 0
      have m1 : wc.cell? ⟨bx, 1, none⟩ = some (.int .i64 xk) := HBX.out.cell 1
      have m2 : wc.cell? ⟨bx, 2, none⟩ = some (.string ⟨xd.toArray⟩) := HBX.out.cell 2
      obtain ⟨b', off', cp', hsh, -, -, -, hlt, hc, hfz⟩ := HSL.out.pos hlp
      cases hsh
      have g0 := hfz (off + j * 3)
      have g1 := hfz (off + j * 3 + 1)
      have g2 := hfz (off + j * 3 + 2)
      have hat := nodeCells_at l j hjl'
      have c0 : wc.cell? ⟨b, off + j * 3, none⟩ = some (sv l[j].path) := (hc _ (by omega)).trans hat.1
      have c1 : wc.cell? ⟨b, off + j * 3 + 1, none⟩ = some (.int .i64 l[j].kind) := (hc _ (by omega)).trans hat.2.1
      have c2 : wc.cell? ⟨b, off + j * 3 + 2, none⟩ = some (sv l[j].data) := (hc _ (by omega)).trans hat.2.2
      clear hc hfz hat
      go_upto_region 26 with (fail)
      have HZ : Hid (Sl (((wc.setCell ⟨b, off + j * 3, none⟩ (.string ⟨xp.toArray⟩)).setCell ⟨b, off + j * 3 + 1, none⟩ (.int .i64 xk)).setCell ⟨b, off + j * 3 + 2, none⟩ (.string ⟨xd.toArray⟩)) w.heap.size 34 3 (.slice (some ⟨b, off, none⟩) l.length cl) (l.set j ⟨xp, xk, xd⟩).length (nodeCells (l.set j ⟨xp, xk, xd⟩)) ∧
          Keeps Non w (((wc.setCell ⟨b, off + j * 3, none⟩ (.string ⟨xp.toArray⟩)).setCell ⟨b, off + j * 3 + 1, none⟩ (.int .i64 xk)).setCell ⟨b, off + j * 3 + 2, none⟩ (.string ⟨xd.toArray⟩))) := by
        have h1 := ((HSL.out.set (j * 3) (by omega) (.string ⟨xp.toArray⟩)).set (j * 3 + 1) (by omega) (.int .i64 xk)).set (j * 3 + 2) (by omega) (.string ⟨xd.toArray⟩)
        refine ⟨?_, ((HK.out.setCell _ _ (.inr hB)).setCell _ _ (.inr hB)).setCell _ _ (.inr hB)⟩
        rw [List.length_set, nodeCells_set l j hjl']
        exact h1
      generalize ((wc.setCell ⟨b, off + j * 3, none⟩ (.string ⟨xp.toArray⟩)).setCell ⟨b, off + j * 3 + 1, none⟩ (.int .i64 xk)).setCell ⟨b, off + j * 3 + 2, none⟩ (.string ⟨xd.toArray⟩) = w5 at *
      clear HBX HSL HK m0 m1 m2 g0 g1 g2 c0 c1 c2
      have hj0 : (0 : Int) ≤ (j : Int) := by omega
      have hbe : PB.isEmpty = false := by have := HB.out; cases PB <;> simp at this ⊢
      have hbe2 : (!PB.isEmpty) = true := by rw [hbe]; rfl
      have hbn : ¬ PB = [] := HB.out
      go_wp2_with fail
      refine (npack_bad _ (l.set j ⟨xp, xk, xd⟩) _ HZ.out.1.rd (HT.out.keeps HZ.out.2) HSM2.out j HBAD.out hj0).mono ?_
      rintro e w6 ⟨rfl, hk6⟩
      have HK6 : Hid (Keeps Non w w6) := HZ.out.2.trans hk6 (fun k hk => .inl hk)
      clear hk6 HZ
      go_wp2_with fail
      go_ret
      exact ⟨rfl, HK6.out⟩
end Go.Proofs.YtflkafnhhadphaaDoor
