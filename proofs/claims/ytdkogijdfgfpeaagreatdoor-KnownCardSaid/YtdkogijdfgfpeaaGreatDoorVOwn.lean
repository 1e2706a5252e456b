/- Append over my slices, told finer: only the slice's own block has turned; for the walk, and for a region that draws its order. No program in sight. -/
import Derived.Test.YtdkogijdfgfpeaaGreatDoorVMem
import Derived.Deep.RegionLaw
import Derived.Test.YtdkogijdfgfpeaaGreatDoorVRead
import Derived.Test.YtdkogijdfgfpeaaGreatDoorVPackw
import Derived.Deep.DeepCutAuto
import Derived.Deep.LoopGhost
import Derived.Deep.QuietTactic
set_option linter.unusedVariables false
namespace Go.Proofs.YtdkogijdfgfpeaaGreatDoor
open Go Go.RowKit
section
variable {P : Program} {w : World}
theorem run_append_own2 (t tx ty E : TypeId) (i : TypeInfo) (z : Value) (size bytes : Nat) (ht : P.underlying t = some (.slice E)) (hi : P.info? E = some i) (hz : i.zero = some z)
 (hsize : i.size = size) (hby : i.bytes = bytes) (hzs : z.cells.size = size) (B : Nat) (hB : B ≤ w.heap.size) (v : Value) (n : Nat) (xs : List Value) (h : Sl w B E size v n xs)
 (x : Value) (m : Nat) (news : List Value) (hs : Src P size tx x m news w) (b1 : n + m ≤ maxLen) (b2 : (n + m) * bytes ≤ 140737488355328) :
 ∃ ao cc w', (Builtin.append_ #[t, tx] ty #[v, x]).run P w = .ok (.slice ao (n + m) cc) w' ∧ Sl w' B E size (.slice ao (n + m) cc) (n + m) (xs ++ news) ∧ Kp B [E] w w' ∧ Keeps (OwnOf v) w w' ∧
   ((Value.slice ao (n + m) cc).ownBlock = v.ownBlock ∨ (Value.slice ao (n + m) cc).ownBlock = some w.heap.size) := by
 subst hsize
 subst hby
 obtain ⟨h1, h2⟩ := h
 have hlen : (xs ++ news).length = (n + m) * i.size := by rw [List.length_append, h1, hs.newsLen, Nat.add_mul]
 have hgrow : ∀ (base : Option Addr) (cap : Nat), v = .slice base n cap → cap < n + m → (Builtin.firstCells i.size n (.slice base n cap)).run P w.drew = .ok xs.toArray w.drew →
  ∃ ao cc w', (Builtin.append_ #[t, tx] ty #[v, x]).run P w = .ok (.slice ao (n + m) cc) w' ∧ Sl w' B E i.size (.slice ao (n + m) cc) (n + m) (xs ++ news) ∧ Kp B [E] w w' ∧ Keeps (OwnOf v) w w' ∧
    ((Value.slice ao (n + m) cc).ownBlock = v.ownBlock ∨ (Value.slice ao (n + m) cc).ownBlock = some w.heap.size) := by
  rintro base cap rfl hg hold
  have hge := grownCap_ge w (n + m) cap E
  have hcm : grownCap w (n + m) cap E ≤ maxLen := grownCap_le_maxLen w (n + m) cap E b1
  have hr := run_append_grow_src (P := P) w t tx ty E i z ht hi hz base n cap xs hold x m news hs hg (by unfold maxLen at b1; omega) (growslice_fits hg b2)
  refine ⟨_, _, _, hr, ⟨hlen, .inr ⟨w.heap.size, 0, _, _, rfl, hB, Blk.new w.drew _ _, hge, hcm, ?_, fun j hj => ?_⟩⟩, (Kp.refl _ _ w).drew.alloc _, (Keeps.refl _ w).drew.alloc _, .inr rfl⟩
  ·simp only [Array.size_append, List.size_toArray, size_zeroCells, hzs, hlen, ← Nat.add_mul, Nat.zero_add]
   rw [show n + m + (grownCap w (n + m) cap E - (n + m)) = grownCap w (n + m) cap E by omega]
   exact Nat.le_refl _
  ·rw [Nat.zero_add, Array.getElem?_append_left (by simp only [List.size_toArray, hlen]; exact hj)]
   simp
 rcases h2 with ⟨rfl, rfl⟩ | ⟨b, off, cap, c, rfl, hBb, hb, h3, h4, h5, h6⟩
 ·obtain rfl : xs = [] := List.eq_nil_of_length_eq_zero (by simpa using h1)
  by_cases hm : m = 0
  ·subst hm
   obtain rfl : news = [] := List.eq_nil_of_length_eq_zero (by simpa using hs.newsLen)
   have : (Builtin.append_ #[t, tx] ty #[.slice none 0 0, x]).run P w = .ok (.slice none 0 0) w := by
    rcases hs.kind with ⟨e', hk⟩ | hk <;> simp [Builtin.append_, run_underlying ht, run_underlying hk, sizeOf, typeInfo, hi, hs.len, hs.cells]
   exact ⟨_, _, _, this, Sl.nil _ _ _ _, Kp.refl _ _ _, Keeps.refl _ _, .inl rfl⟩
  ·exact hgrow none 0 rfl (by omega) (by simp [Builtin.firstCells])
 ·have hcells : ∀ (w1 : World), w1.cell? = w.cell? → (Builtin.firstCells i.size n (.slice (some ⟨b, off, none⟩) n cap)).run P w1 = .ok xs.toArray w1 := fun w1 hw1 =>
   run_firstCells_some w1 i.size n ⟨b, off, none⟩ n cap xs h1 (fun j u hj => by
    rw [Addr.add_lit, hw1, hb.cell, h6 j (by rw [← h1]; exact (List.getElem?_eq_some_iff.1 hj).1)]
    exact hj)
  by_cases hr : n + m ≤ cap
  ·have hnc : n * i.size + news.length ≤ cap * i.size := by rw [hs.newsLen, ← Nat.add_mul]; exact Nat.mul_le_mul_right _ hr
   have hrun := run_append_room_src (P := P) w t tx ty E i ht hi b off n cap x m news hs hr
    (fun j hj => by rw [hb.cell]; simp; omega) (fun j hj => hb.free _)
   obtain ⟨c', g1, g2, g3, g4⟩ := Blk.setCells (w := w) news (off + n * i.size) w c hb
   have hkk : Keeps (One b) w (w.setCells b (off + n * i.size) news) := Keeps.setCells (S := One b) (.inl rfl) _ _ _ (Keeps.refl _ _)
   refine ⟨_, _, _, hrun, ⟨hlen, .inr ⟨b, off, cap, c', rfl, hBb, g1, hr, h4, by omega, fun j hj => ?_⟩⟩, ⟨hkk.os, hkk.tape, hkk.output, hkk.size, fun k hk => ?_⟩, hkk.mono (fun k _ e => by cases e; rfl), .inl rfl⟩
   ·by_cases hjn : j < n * i.size
    ·rw [g3 _ (.inl (by omega)), h6 j hjn, List.getElem?_append_left (by omega)]
    ·have hk := hs.newsLen
     rw [Nat.add_mul] at hj
     rw [show off + j = off + n * i.size + (j - n * i.size) by omega, g4 (by omega) _ (by omega), List.getElem?_append_right (by omega), h1]
   ·by_cases e : k = b
    ·subst e; exact .inr ⟨hBb, c, c', E, by simp, hb, g1⟩
    ·exact .inl (hkk.block k hk e)
  ·exact hgrow _ cap rfl (by omega) (hcells w.drew (by funext a; rfl))
theorem wpList_append_own2 {ops : Array Oper} {rest : List Oper} {o : Oper} {a : Act} {Q : Exit → Act → World → Prop} (hgd : o.guard = none) (s x : Operand) (t tx : TypeId)
 (hop : o.op = Op.call { callee := Callee.builtin Builtin.append, args := #[s, x], argTypes := #[t, tx] })
 (E : TypeId) (i : TypeInfo) (z : Value) (size bytes : Nat) (ht : P.underlying t = some (.slice E)) (hi : P.info? E = some i) (hz : i.zero = some z)
 (hsize : i.size = size) (hby : i.bytes = bytes) (hzs : z.cells.size = size) (B : Nat) (v : Value) (n : Nat) (xs : List Value) (hv : a.eval s = v) (xv : Value) (hxv : a.eval x = xv)
 (m : Nat) (news : List Value) (hB : B ≤ w.heap.size) (h : Sl w B E size v n xs) (hs : Src P size tx xv m news w) (b1 : n + m ≤ maxLen) (b2 : (n + m) * bytes ≤ 140737488355328)
 (hK : ∀ ao cc w', Sl w' B E size (.slice ao (n + m) cc) (n + m) (xs ++ news) → Kp B [E] w w' → Keeps (OwnOf v) w w' → ((Value.slice ao (n + m) cc).ownBlock = v.ownBlock ∨ (Value.slice ao (n + m) cc).ownBlock = some w.heap.size) → wpList P ops Q rest (a.put o.dst (.slice ao (n + m) cc)) w') :
 wpList P ops Q (o :: rest) a w := by
 refine wpList_plain hgd fun K hK' => ?_
 obtain ⟨ao, cc, w', hrun, r1, r2, r3, r4⟩ := run_append_own2 (P := P) t tx o.type E i z size bytes ht hi hz hsize hby hzs B hB v n xs h xv m news hs b1 b2
 unfold Oper.wp
 simp [execOp, hop, resolve, invoke, builtin, hv, hxv, hrun, Result.andThen]
 exact hK' _ _ (hK ao cc w' r1 r2 r3 r4)
theorem step_append_own2 {ops : Array Oper} {o : Oper} {a : Act} {K : Act → World → Prop} {Q : Exit → Act → World → Prop} {F : Prop} (hgd : o.guard = none) (s x : Operand) (t tx : TypeId)
 (hop : o.op = Op.call { callee := Callee.builtin Builtin.append, args := #[s, x], argTypes := #[t, tx] })
 (E : TypeId) (i : TypeInfo) (z : Value) (size bytes : Nat) (ht : P.underlying t = some (.slice E)) (hi : P.info? E = some i) (hz : i.zero = some z)
 (hsize : i.size = size) (hby : i.bytes = bytes) (hzs : z.cells.size = size) (B : Nat) (v : Value) (n : Nat) (xs : List Value) (hv : a.eval s = v) (xv : Value) (hxv : a.eval x = xv)
 (m : Nat) (news : List Value) (hB : B ≤ w.heap.size) (h : Sl w B E size v n xs) (hs : Src P size tx xv m news w) (b1 : n + m ≤ maxLen) (b2 : (n + m) * bytes ≤ 140737488355328)
 (hK : ∀ ao cc w', Sl w' B E size (.slice ao (n + m) cc) (n + m) (xs ++ news) → Kp B [E] w w' → Keeps (OwnOf v) w w' → ((Value.slice ao (n + m) cc).ownBlock = v.ownBlock ∨ (Value.slice ao (n + m) cc).ownBlock = some w.heap.size) → K (a.put o.dst (.slice ao (n + m) cc)) w') :
 if Region.wanted o (yielded ops a.tmps) = true then Oper.wp P o a w K Q else F := by
 have hw : Region.wanted o (yielded ops a.tmps) = true := by simp [Region.wanted, hgd]
 rw [if_pos hw]
 obtain ⟨ao, cc, w', hrun, r1, r2, r3, r4⟩ := run_append_own2 (P := P) t tx o.type E i z size bytes ht hi hz hsize hby hzs B hB v n xs h xv m news hs b1 b2
 unfold Oper.wp
 simp [execOp, hop, resolve, invoke, builtin, hv, hxv, hrun, Result.andThen]
 exact hK ao cc w' r1 r2 r3 r4
end
def idxN (l : List (List UInt8)) (s : List UInt8) : Nat → Int
 | 0 => -1
 | k + 1 => if l[l.length - (k + 1)]? = some s then ((l.length - (k + 1) : Nat) : Int) else idxN l s k
def idxL (l : List (List UInt8)) (s : List UInt8) : Int := idxN l s l.length
theorem idxN_mem (l : List (List UInt8)) (s : List UInt8) : ∀ k, k ≤ l.length → (0 ≤ idxN l s k ↔ s ∈ l.drop (l.length - k))
 | 0, _ => by simp [idxN]
 | k + 1, h => by
   have hl : l.length - (k + 1) < l.length := by omega
   have e : l.drop (l.length - (k + 1)) = l[l.length - (k + 1)] :: l.drop (l.length - k) := by
    rw [List.drop_eq_getElem_cons hl]; congr 2; omega
   unfold idxN
   rw [e, List.mem_cons, List.getElem?_eq_getElem hl]
   split
   ·rename_i h1
    simp only [Option.some.injEq] at h1
    exact ⟨fun _ => .inl h1.symm, fun _ => by omega⟩
   ·rename_i h1
    simp only [Option.some.injEq] at h1
    rw [idxN_mem l s k (by omega)]
    exact ⟨fun h => .inr h, fun h => h.resolve_left (fun e => h1 e.symm)⟩
theorem idxL_mem (l : List (List UInt8)) (s : List UInt8) : 0 ≤ idxL l s ↔ s ∈ l := by
 have := idxN_mem l s l.length (Nat.le_refl _)
 rw [Nat.sub_self, List.drop_zero] at this
 exact this
theorem svs_get (l : List (List UInt8)) (k : Nat) (h : k < l.length) : (svs l)[k]? = some (sv l[k]) := by simp [svs, List.getElem?_eq_getElem h]
set_option maxHeartbeats 800000 in
set_option maxRecDepth 100000 in
theorem idx_any (l : List (List UInt8)) (v : Value) (s : ByteArray) (w : World) (hv : Rd w 1 v l.length (svs l)) :
 Calls Tryz.prog 74 #[v, .string s] w fun e w' => e = .returned (.int .i64 (idxL l s.data.toList)) ∧ w = w' := by
 obtain ⟨a0, c0, rfl, hc1, hc2⟩ := hv.shape
 unfold maxLen at hc2
 have HV := Lib.hid hv
 clear hv
 go_enter Tryz.func74, Tryz.ntmps74
 go_wp2_with fail
 go_loopg [8] l.length (fun gk iv wr => ∃ k : Nat, gk = l.length - k ∧ k ≤ l.length ∧ iv = .int .i64 k ∧ w = wr ∧ Hid (idxL l s.data.toList = idxN l s.data.toList (l.length - k)))
 case atStart => exact ⟨0, rfl, Nat.zero_le _, rfl, rfl, rfl⟩
 case round =>
  obtain ⟨k, rfl, hk, rfl, rfl, HA⟩ := hrel
  by_cases hlt : k < l.length
  ·obtain ⟨b', o', c', hsh, -, -, -, hltb, hcc, -⟩ := HV.out.pos (by omega)
   cases hsh
   have d0 : w.cell? ⟨b', o' + k, none⟩ = some (sv l[k]) := (hcc k (by omega)).trans (svs_get l k hlt)
   unfold sv at d0
   have hatk : idxN l s.data.toList (l.length - k) = if l[k] = s.data.toList then (k : Int) else idxN l s.data.toList (l.length - (k + 1)) := by
    rw [show l.length - k = (l.length - (k + 1)) + 1 by omega, idxN, show l.length - (l.length - (k + 1) + 1) = k by omega, List.getElem?_eq_getElem hlt]
    simp
   have HATK := Lib.hid hatk
   clear hcc hatk
   generalize l[k] = x at *
   by_cases he : x = s.data.toList
   ·have hb : (s.toList == x) = true := by rw [ByteArray.toList_eq, he]; exact beq_self_eq_true _
    have HE := Lib.hid he
    clear he
    go_wp2_with fail
    go_ret
    refine ⟨?_, rfl⟩
    rw [HA.out, HATK.out, if_pos HE.out]; rfl
   ·have hb : (s.toList == x) = false := by
     rw [beq_eq_false_iff_ne, ByteArray.toList_eq]; exact fun e => he e.symm
    have HE : Hid (¬ x = s.data.toList) := he
    clear he
    go_wp2_with fail
    go_roundg (l.length - (k + 1))
    case measure => omega
    case rel => exact ⟨k + 1, rfl, by omega, by go_num, rfl, by show _ = _; rw [HA.out, HATK.out, if_neg HE.out]⟩
  ·have hk2 : k = l.length := by omega
   subst hk2
   go_wp2_with fail
   go_ret
   refine ⟨?_, rfl⟩
   rw [HA.out, Nat.sub_self]; rfl
set_option maxHeartbeats 800000 in
set_option maxRecDepth 100000 in
theorem con_any (l : List (List UInt8)) (v : Value) (s : ByteArray) (w : World) (hv : Rd w 1 v l.length (svs l)) :
 Calls Tryz.prog 39 #[v, .string s] w fun e w' => e = .returned (.bool (decide (s.data.toList ∈ l))) ∧ w = w' := by
 have HV := Lib.hid hv
 clear hv
 have hd : decide (0 ≤ idxL l s.data.toList) = decide (s.data.toList ∈ l) := by
  rw [decide_eq_decide]; exact idxL_mem _ _
 have HD := Lib.hid hd
 clear hd
 go_enter Tryz.func39, Tryz.ntmps39
 go_wp2_with fail
 refine (idx_any l v s _ HV.out).mono ?_
 rintro e w1 ⟨rfl, rfl⟩
 go_wp2_with fail
 go_ret
 refine ⟨?_, rfl⟩
 rw [← HD.out]; rfl
theorem drewN_more {w w' : World} (h : ∃ n, w' = w.drewN n) (k : Nat) : ∃ n, w'.drewN k = w.drewN n := by
 obtain ⟨n, rfl⟩ := h
 exact ⟨n + k, by simp [go_sem, World.drewN, Nat.add_assoc]⟩
set_option maxHeartbeats 800000 in
set_option maxRecDepth 100000 in
theorem eqs_any (l m : List (List UInt8)) (v u : Value) (w : World) (hv : Rd w 1 v l.length (svs l)) (hu : Rd w 1 u m.length (svs m)) :
 Calls Tryz.prog 95 #[v, u] w fun e w' => e = .returned (.bool (l == m)) ∧ ∃ n, w' = w.drewN n := by
 obtain ⟨a0, c0, rfl, hc1, hc2⟩ := hv.shape
 obtain ⟨a1, c1, rfl, hc3, hc4⟩ := hu.shape
 unfold maxLen at hc2 hc4
 have HV := Lib.hid hv
 have HU := Lib.hid hu
 clear hv hu
 by_cases hlen : l.length = m.length
 ·have hb : (!(l.length : Int) == (m.length : Int)) = false := by rw [hlen]; simp
  go_enter Tryz.func95, Tryz.ntmps95
  go_wp2_with fail
  go_loopg [13] l.length (fun gk iv wr => ∃ k : Nat, gk = l.length - k ∧ k ≤ l.length ∧ iv = .int .i64 k ∧ Hid (Keeps Non w wr) ∧ Hid (∃ n, wr = w.drewN n) ∧ Hid (l.take k = m.take k))
  case atStart => exact ⟨0, rfl, Nat.zero_le _, rfl, Keeps.refl _ _, ⟨0, rfl⟩, rfl⟩
  case round =>
   obtain ⟨k, rfl, hk, rfl, HK, HD, HA⟩ := hrel
   by_cases hlt : k < l.length
   ·have hlt2 : k < m.length := by omega
    obtain ⟨b, off, cp, hsh, -, -, -, hbl, hc, -⟩ := (HV.out.non HK.out).pos (by omega)
    cases hsh
    obtain ⟨b', off', cp', hsh, -, -, -, hbl', hc', -⟩ := (HU.out.non HK.out).pos (by omega)
    cases hsh
    have d0 : wr.cell? ⟨b, off + k, none⟩ = some (sv l[k]) := (hc k (by omega)).trans (svs_get l k hlt)
    have d1 : wr.cell? ⟨b', off' + k, none⟩ = some (sv m[k]) := (hc' k (by omega)).trans (svs_get m k hlt2)
    unfold sv at d0 d1
    have HX : Hid (l[k]? = some l[k] ∧ m[k]? = some m[k]) := ⟨List.getElem?_eq_getElem hlt, List.getElem?_eq_getElem hlt2⟩
    clear hc hc'
    generalize l[k] = x at *
    generalize m[k] = y at *
    have q2 : (0 : Int) ≤ (k : Int) := by omega
    have q3 : (k : Int) < (l.length : Int) := by omega
    have q5 : (k : Int) < (m.length : Int) := by omega
    by_cases he : x = y
    ·subst he
     have hbb : (x == x) = true := beq_self_eq_true _
     go_upto_region 6 with (fail)
     go_quiet (fail)
     go_wp2_with fail
     go_roundg (l.length - (k + 1))
     case measure => omega
     case rel =>
      refine ⟨k + 1, rfl, by omega, by go_num, HK.out.drewN _, drewN_more HD.out nq, ?_⟩
      show _ = _
      rw [List.take_add_one, List.take_add_one, HX.out.1, HX.out.2, HA.out]
    ·have hbb : (x == y) = false := by rw [beq_eq_false_iff_ne]; exact he
     have HE := Lib.hid he
     clear he
     go_upto_region 6 with (fail)
     go_quiet (fail)
     go_wp2_with fail
     go_ret
     refine ⟨bool_ret ?_, drewN_more HD.out nq⟩
     symm
     rw [beq_eq_false_iff_ne]
     intro e
     subst e
     have h1 := HX.out.1
     rw [HX.out.2] at h1
     cases h1
     exact HE.out rfl
   ·have hk2 : k = l.length := by omega
    subst hk2
    go_wp2_with fail
    go_ret
    refine ⟨bool_ret ?_, HD.out⟩
    symm
    rw [beq_iff_eq]
    have h1 := HA.out
    rw [List.take_length, hlen, List.take_length] at h1
    exact h1
 ·have hb : (!(l.length : Int) == (m.length : Int)) = true := by simp; omega
  have hb2 : (l.length == m.length) = false := by simpa using hlen
  have hb3 : decide (l.length = m.length) = false := by simpa using hlen
  have hb4 : (!(l.length == m.length)) = true := by simpa using hlen
  have HE : Hid ((l == m) = false) := by
   show _ = _
   rw [beq_eq_false_iff_ne]
   intro e
   exact hlen (by rw [e])
  clear hlen
  go_enter Tryz.func95, Tryz.ntmps95
  go_wp2_with fail
  go_ret
  exact ⟨bool_ret HE.out.symm, 0, rfl⟩
theorem infoNd : (Tryz.prog.info? 49).map (fun i => (i.zero, i.size, i.bytes)) = some (some (.agg #[.string ⟨#[]⟩, .int .i64 0, .string ⟨#[]⟩]), 3, 40) := by kernel_rfl
theorem isnilS (a : Option Addr) (n c : Nat) (w : World) : Sem.run Tryz.prog (binOp BinOp.eql 26 (.slice a n c) (.slice none 0 0)) w = .ok (.bool a.isNone) w := by
 cases a <;> kernel_rfl
theorem isnilN (a : Option Addr) (n c : Nat) (w : World) : Sem.run Tryz.prog (binOp BinOp.eql 50 (.slice a n c) (.slice none 0 0)) w = .ok (.bool a.isNone) w := by
 cases a <;> kernel_rfl
theorem nodes_one (l : List Node) : ∀ u ∈ nodeCells l, u.oneCell' = true := fun u hu => by
 obtain ⟨n, hn, hu⟩ := List.mem_flatMap.1 hu
 simp only [nodeC, List.mem_cons, List.not_mem_nil, or_false] at hu
 rcases hu with rfl | rfl | rfl <;> rfl
set_option maxHeartbeats 800000 in
set_option maxRecDepth 100000 in
theorem cloneS_any (l : List (List UInt8)) (v : Value) (w : World) (hv : Rd w 1 v l.length (svs l)) (hl : l.length ≤ 1099511627776) :
 Calls Tryz.prog 58 #[v] w fun e w' => ∃ v', e = .returned v' ∧ Sl w' w.heap.size 9 1 v' l.length (svs l) ∧ Keeps Non w w' := by
 obtain ⟨a0, c0, rfl, hc1, hc2⟩ := hv.shape
 obtain ⟨i0, hi, hi0, hi1, hi2⟩ := info_parts infoStr
 cases a0 with
 | none =>
   have hl0 : l = [] := by
    rcases Nat.eq_zero_or_pos l.length with h | h
    ·exact List.eq_nil_of_length_eq_zero h
    ·obtain ⟨b, o, c, hsh, -⟩ := hv.pos h
     cases hsh
   subst hl0
   clear hv
   have hnil := fun w => isnilS none 0 c0 w
   simp only [Option.isNone] at hnil
   go_enter Tryz.func58, Tryz.ntmps58
   go_wp2_with fail
   go_ret
   exact ⟨_, rfl, Sl.nil _ _ _ _, Keeps.refl _ _⟩
 | some a0 =>
   have HV := Lib.hid hv
   have hnil := fun w => isnilS (some a0) l.length c0 w
   simp only [Option.isNone] at hnil
   have HN := Lib.hid (Sl.of_new w w.heap.size (Nat.le_refl _) 9 1 0 [] rfl (by simp [maxLen]))
   clear hv
   go_enter Tryz.func58, Tryz.ntmps58
   go_wp2_with (at_builtin; refine wpList_append_own2 rfl _ _ 26 26 rfl 9 i0 _ 1 16 Tryz.underlying26 hi hi0 hi1 hi2 rfl w.heap.size _ _ _ rfl _ rfl l.length (svs l) ?c1 HN.out ?c2 ?c3 ?c4 ?_)
   case c1 => simp
   case c2 => exact Src.ofRd Tryz.underlying26 (HV.out.non ((Keeps.refl _ _).alloc _)) (svs_one l)
   case c3 => unfold maxLen; omega
   case c4 => omega
   intro a1 c1 w1 hs1 hk1 hkk1 hb1
   go_wp2_with fail
   go_ret
   refine ⟨_, rfl, ?_, ?_⟩
   ·simpa using hs1
   ·exact Keeps.of_below ((((Kp.refl w.heap.size [9] w).alloc _).trans hk1).below (Nat.le_refl _)) fun k hk _ => hk
set_option maxHeartbeats 800000 in
set_option maxRecDepth 100000 in
theorem cloneN_any (l : List Node) (v : Value) (w : World) (hv : Rd w 3 v l.length (nodeCells l)) (hl : l.length ≤ 1099511627776) :
 Calls Tryz.prog 57 #[v] w fun e w' => ∃ v', e = .returned v' ∧ Sl w' w.heap.size 49 3 v' l.length (nodeCells l) ∧ Keeps Non w w' := by
 obtain ⟨a0, c0, rfl, hc1, hc2⟩ := hv.shape
 obtain ⟨i0, hi, hi0, hi1, hi2⟩ := info_parts infoNd
 cases a0 with
 | none =>
   have hl0 : l = [] := by
    rcases Nat.eq_zero_or_pos l.length with h | h
    ·exact List.eq_nil_of_length_eq_zero h
    ·obtain ⟨b, o, c, hsh, -⟩ := hv.pos h
     cases hsh
   subst hl0
   clear hv
   have hnil := fun w => isnilN none 0 c0 w
   simp only [Option.isNone] at hnil
   go_enter Tryz.func57, Tryz.ntmps57
   go_wp2_with fail
   go_ret
   exact ⟨_, rfl, Sl.nil _ _ _ _, Keeps.refl _ _⟩
 | some a0 =>
   have HV := Lib.hid hv
   have hnil := fun w => isnilN (some a0) l.length c0 w
   simp only [Option.isNone] at hnil
   have HN := Lib.hid (Sl.of_new w w.heap.size (Nat.le_refl _) 49 3 0 [] rfl (by simp [maxLen]))
   clear hv
   go_enter Tryz.func57, Tryz.ntmps57
   go_wp2_with (at_builtin; refine wpList_append_own2 rfl _ _ 50 50 rfl 49 i0 _ 3 40 Tryz.underlying50 hi hi0 hi1 hi2 rfl w.heap.size _ _ _ rfl _ rfl l.length (nodeCells l) ?c1 HN.out ?c2 ?c3 ?c4 ?_)
   case c1 => simp
   case c2 => exact Src.ofRd Tryz.underlying50 (HV.out.non ((Keeps.refl _ _).alloc _)) (nodes_one l)
   case c3 => unfold maxLen; omega
   case c4 => omega
   intro a1 c1 w1 hs1 hk1 hkk1 hb1
   go_wp2_with fail
   go_ret
   refine ⟨_, rfl, ?_, ?_⟩
   ·simpa using hs1
   ·exact Keeps.of_below ((((Kp.refl w.heap.size [49] w).alloc _).trans hk1).below (Nat.le_refl _)) fun k hk _ => hk
end Go.Proofs.YtdkogijdfgfpeaaGreatDoor
