/- narref.pack: the bytes of a tree. -/
import Derived.Test.YtohbjbicmgnblaaDoorChecked
import Derived.Test.YtohbjbicmgnblaaDoorRefE
namespace Go.Proofs.YtohbjbicmgnblaaDoor
open Go Go.RowKit
set_option linter.unusedVariables false

def leafR (kd : Int) (da : List UInt8) : List UInt8 :=
  if kd = 1 then putAll [[102, 105, 108, 101], [100, 97, 116, 97], da]
  else if kd = 2 then putAll [[102, 105, 108, 101], [101, 120, 101, 99], [], [100, 97, 116, 97], da]
  else putAll [[108, 105, 110, 107], [116, 111], da]
/-- a node, with what is below it -/
def nodeR (x : Node) (kids : List UInt8) : List UInt8 :=
  putAll [[40], [116, 121, 112, 101]] ++ ((if x.kind = 1 ∨ x.kind = 2 ∨ x.kind = 3 then leafR x.kind x.data else putL [100, 105, 114] ++ kids) ++ putL [41])
def entryT (y : Node) : List UInt8 := putAll [[101, 110, 116, 114, 121], [40], [110, 97, 109, 101], (dirOf y.path).2, [110, 111, 100, 101]]
/-- nodes in their order: each with those that are below it -/
def forestF : Nat → List Node → List UInt8
  | 0, _ => []
  | _, [] => []
  | f + 1, y :: r => entryT y ++ (nodeR y (forestF f (r.takeWhile fun z => belowB z.path y.path)) ++ (putL [41] ++ forestF f (r.dropWhile fun z => belowB z.path y.path)))
theorem forestF_fuel : ∀ (f g : Nat) (l : List Node), l.length ≤ f → l.length ≤ g → forestF f l = forestF g l
  | 0, g, l, hf, _ => by
    obtain rfl : l = [] := List.eq_nil_of_length_eq_zero (by omega)
    cases g <;> rfl
  | f + 1, 0, l, _, hg => by
    obtain rfl : l = [] := List.eq_nil_of_length_eq_zero (by omega)
    rfl
  | f + 1, g + 1, [], _, _ => rfl
  | f + 1, g + 1, y :: r, hf, hg => by
    have h1 := (List.takeWhile_sublist (l := r) (fun z => belowB z.path y.path)).length_le
    have h2 := (List.dropWhile_sublist (l := r) (fun z => belowB z.path y.path)).length_le
    simp only [List.length_cons] at hf hg
    simp only [forestF]
    rw [forestF_fuel f g _ (by omega) (by omega), forestF_fuel f g (r.dropWhile _) (by omega) (by omega)]
def forest (l : List Node) : List UInt8 := forestF l.length l
theorem forest_cons (y : Node) (r : List Node) : forest (y :: r) = entryT y ++ (nodeR y (forest (r.takeWhile fun z => belowB z.path y.path)) ++ (putL [41] ++ forest (r.dropWhile fun z => belowB z.path y.path))) := by
  have h1 := (List.takeWhile_sublist (l := r) (fun z => belowB z.path y.path)).length_le
  have h2 := (List.dropWhile_sublist (l := r) (fun z => belowB z.path y.path)).length_le
  unfold forest
  simp only [List.length_cons, forestF]
  rw [forestF_fuel r.length _ _ h1 (Nat.le_refl _), forestF_fuel r.length _ (r.dropWhile _) h2 (Nat.le_refl _)]
def refPackL : List Node → List UInt8
  | [] => []
  | x :: r => nodeR x (forest r)

attribute [local irreducible] putAll putL
theorem nodeR_leaf (x : Node) (kids : List UInt8) (h : x.kind = 1 ∨ x.kind = 2 ∨ x.kind = 3) : nodeR x kids = putAll [[40], [116, 121, 112, 101]] ++ leafR x.kind x.data ++ putL [41] := by
  unfold nodeR; rw [if_pos h, List.append_assoc]
theorem nodeR_dir (x : Node) (kids : List UInt8) (h : ¬ (x.kind = 1 ∨ x.kind = 2 ∨ x.kind = 3)) : nodeR x kids = putAll [[40], [116, 121, 112, 101]] ++ putL [100, 105, 114] ++ kids ++ putL [41] := by
  unfold nodeR; rw [if_neg h]; simp only [List.append_assoc]

theorem argBlk {w : World} {sz : Nat} {c : Array Value} (n : Nat) (l : List (List UInt8)) (hb : Blk w sz c 9) (hc : c = (svs l).toArray) (hn : l.length = n) (h : l.length ≤ 100) : Sl w 0 9 1 (.slice (some ⟨sz, 0, none⟩) n n) l.length (svs l) := by
  subst hn
  subst hc
  exact ⟨by simp [svs], .inr ⟨sz, 0, _, _, rfl, Nat.zero_le _, hb, Nat.le_refl _, by unfold maxLen; omega, by simp [svs], fun i hi => by simp⟩⟩

set_option maxHeartbeats 4000000 in
set_option maxRecDepth 100000 in
theorem rpack_any (m : Nat) : ∀ (l : List Node) (v : Value) (w : World), l.length ≤ m → l ≠ [] → Rd w 3 v l.length (nodeCells l) → NodesSmall l → (refPackL l).length ≤ 70368744177664 →
    Calls Tryd.prog 18 #[v] w fun e w' => e = .returned (.string ⟨(refPackL l).toArray⟩) ∧ Keeps Non w w' := by
  induction m with
  | zero => intro l v w hm hne; exact absurd (List.eq_nil_of_length_eq_zero (by omega)) hne
  | succ m ih =>
  intro l v w hm hne hv hfit hlen
  obtain ⟨x, r, rfl⟩ := List.exists_cons_of_ne_nil hne
  clear hne
  have hf := hfit x (List.mem_cons_self ..)
  have hat := nodeCells_at (x :: r) 0 (by simp)
  obtain ⟨p, kd, da⟩ := x
  simp only [List.getElem_cons_zero] at hat hf
  obtain ⟨b, off, cap, rfl, -, hnc, hcm, hbl, hc, -⟩ := hv.pos (by simp)
  unfold maxLen at hcm
  have c0 : w.cell? ⟨b, off, none⟩ = some (sv p) := (hc 0 (by simp)).trans hat.1
  have c1 : w.cell? ⟨b, off + 1, none⟩ = some (.int .i64 kd) := (hc 1 (by simp; omega)).trans hat.2.1
  have c2 : w.cell? ⟨b, off + 2, none⟩ = some (sv da) := (hc 2 (by simp; omega)).trans hat.2.2
  have HC : Hid (∀ j, j < (⟨p, kd, da⟩ :: r : List Node).length * 3 → w.cell? ⟨b, off + j, none⟩ = (nodeCells (⟨p, kd, da⟩ :: r))[j]?) := hc
  have HFIT := Lib.hid hfit
  have HV := Lib.hid hv
  have HIH := Lib.hid ih
  have HF := Lib.hid hf
  have HLEN := Lib.hid hlen
  unfold sv at c0 c2
  have hP0 : Hid (refPackL (⟨p, kd, da⟩ :: r) = nodeR ⟨p, kd, da⟩ (forest r)) := rfl
  have hHR : Hid (r = (⟨p, kd, da⟩ :: r : List Node).drop 1) := rfl
  have hLp : 0 < (⟨p, kd, da⟩ :: r : List Node).length := by simp
  clear hc hv hat hfit hf ih hlen
  generalize (⟨p, kd, da⟩ :: r : List Node) = L at *
  go_enter Tryd.func18, Tryd.ntmps18
  go_upto_region 2 with (fail)
  obtain ⟨w1, hw1⟩ : ∃ w1, w.alloc (.cells #[.string ⟨p.toArray⟩, .int .i64 kd, .string ⟨da.toArray⟩] 45) = w1 := ⟨_, rfl⟩
  have hbox : Blk w1 w.heap.size #[.string ⟨p.toArray⟩, .int .i64 kd, .string ⟨da.toArray⟩] 45 := by rw [← hw1]; exact Blk.new _ _ _
  have HK1 : Hid (Keeps Non w w1) := by rw [← hw1]; exact (Keeps.refl _ _).alloc _
  rw [hw1]
  have HBOX := Lib.hid hbox
  clear hw1 c0 c1 c2 hbox
  generalize hbx : w.heap.size = bx at *
  go_wp2_with fail
  refine (rstrs_any _ [[40], [116, 121, 112, 101]] _ ?p1 ?p2 ?p3).mono ?_
  case p1 => exact putArg w1 2 _ [[40], [116, 121, 112, 101]] _ (by simp) rfl rfl (by simp)
  case p2 => simp
  case p3 => simp [roomOf]
  rintro e w2 ⟨rfl, hk2⟩
  have hk12 : Keeps Non w1 w2 := ((Keeps.refl Non w1).alloc (.cells #[.string ⟨#[40]⟩, .string ⟨#[116, 121, 112, 101]⟩] 9)).trans hk2 (fun k hk => .inl hk)
  have HBOX2 : Hid (Blk w2 bx #[.string ⟨p.toArray⟩, .int .i64 kd, .string ⟨da.toArray⟩] 45) := HBOX.out.keeps hk12 (fun h => h)
  have HK2 : Hid (Keeps Non w w2) := HK1.out.trans hk12 (fun k hk => .inl hk)
  have n1 : w2.cell? ⟨bx, 1, none⟩ = some (.int .i64 kd) := HBOX2.out.cell 1
  have n2 : w2.cell? ⟨bx, 2, none⟩ = some (.string ⟨da.toArray⟩) := HBOX2.out.cell 2
  have hT : (putAll [[40], [116, 121, 112, 101]]).length ≤ 100 := Nat.le_trans (putAll_le _) (by simp [roomOf])
  have hE : (putL [41]).length ≤ 100 := by rw [putL_length]; have := padN_lt 1; simp; omega
  clear hk2 hk12 HBOX HK1
  have HW : Hid (∀ w' : World, Calls Tryd.prog 17 #[.string ⟨#[41]⟩] w' fun e w'' => e = .returned (.string ⟨(putL [41]).toArray⟩) ∧ Keeps Non w' w'') := fun w' => rstr_any [41] w' (by simp)
  have hda : da.length ≤ 1099511627776 := HF.out.2
  by_cases h1 : kd = 1
  · have hb1 : (kd == 1) = true := by rw [h1]; rfl
    have HR : Hid (refPackL L = putAll [[40], [116, 121, 112, 101]] ++ putAll [[102, 105, 108, 101], [100, 97, 116, 97], da] ++ putL [41]) := by
      show _ = _
      rw [hP0.out, nodeR_leaf _ _ (by simp only; omega)]
      simp only [leafR, h1]
      rfl
    have hL : (putAll [[102, 105, 108, 101], [100, 97, 116, 97], da]).length ≤ 1099511628776 := by
      refine Nat.le_trans (putAll_le _) ?_
      simp only [roomOf, List.map_cons, List.sum_cons, List.length_cons, List.length_nil, List.map_nil, List.sum_nil]
      omega
    have HSZ : Hid (w2.heap.size = w2.heap.size) := rfl
    clear h1 hP0
    go_wp2_with fail
    refine (rstrs_any _ [[102, 105, 108, 101], [100, 97, 116, 97], da] _ ?q11 ?q12 ?q13).mono ?_
    case q11 => exact putArg w2 3 _ [[102, 105, 108, 101], [100, 97, 116, 97], da] _ (by simp) rfl rfl (by simp)
    case q12 => simp
    case q13 =>
      simp only [roomOf, List.map_cons, List.sum_cons, List.length_cons, List.length_nil, List.map_nil, List.sum_nil]
      omega
    rintro e w3 ⟨rfl, hk3⟩
    have HK3 : Hid (Keeps Non w w3) := (HK2.out.alloc _).trans hk3 (fun k hk => .inl hk)
    clear hk3
    go_wp2_with fail
    refine (HW.out _).mono ?_
    rintro e w4 ⟨rfl, hk4⟩
    have HK4 : Hid (Keeps Non w w4) := HK3.out.trans hk4 (fun k hk => .inl hk)
    clear hk4
    go_wp2_with fail
    go_ret
    exact ⟨str_ret (by rw [str_app, str_app, HR.out]), HK4.out⟩
  have hb1 : (kd == 1) = false := by rw [beq_eq_false_iff_ne]; exact h1
  by_cases h2 : kd = 2
  · have hb2 : (kd == 2) = true := by rw [h2]; rfl
    have HR : Hid (refPackL L = putAll [[40], [116, 121, 112, 101]] ++ putAll [[102, 105, 108, 101], [101, 120, 101, 99], [], [100, 97, 116, 97], da] ++ putL [41]) := by
      show _ = _
      rw [hP0.out, nodeR_leaf _ _ (by simp only; omega)]
      simp only [leafR, h2]
      rfl
    have hL : (putAll [[102, 105, 108, 101], [101, 120, 101, 99], [], [100, 97, 116, 97], da]).length ≤ 1099511628776 := by
      refine Nat.le_trans (putAll_le _) ?_
      simp only [roomOf, List.map_cons, List.sum_cons, List.length_cons, List.length_nil, List.map_nil, List.sum_nil]
      omega
    have HSZ : Hid (w2.heap.size = w2.heap.size) := rfl
    clear h2 hP0
    go_wp2_with fail
    refine (rstrs_any _ [[102, 105, 108, 101], [101, 120, 101, 99], [], [100, 97, 116, 97], da] _ ?q21 ?q22 ?q23).mono ?_
    case q21 => exact putArg w2 5 _ [[102, 105, 108, 101], [101, 120, 101, 99], [], [100, 97, 116, 97], da] _ (by simp) rfl rfl (by simp)
    case q22 => simp
    case q23 =>
      simp only [roomOf, List.map_cons, List.sum_cons, List.length_cons, List.length_nil, List.map_nil, List.sum_nil]
      omega
    rintro e w3 ⟨rfl, hk3⟩
    have HK3 : Hid (Keeps Non w w3) := (HK2.out.alloc _).trans hk3 (fun k hk => .inl hk)
    clear hk3
    go_wp2_with fail
    refine (HW.out _).mono ?_
    rintro e w4 ⟨rfl, hk4⟩
    have HK4 : Hid (Keeps Non w w4) := HK3.out.trans hk4 (fun k hk => .inl hk)
    clear hk4
    go_wp2_with fail
    go_ret
    exact ⟨str_ret (by rw [str_app, str_app, HR.out]), HK4.out⟩
  have hb2 : (kd == 2) = false := by rw [beq_eq_false_iff_ne]; exact h2
  by_cases h3 : kd = 3
  · have hb3 : (kd == 3) = true := by rw [h3]; rfl
    have HR : Hid (refPackL L = putAll [[40], [116, 121, 112, 101]] ++ putAll [[108, 105, 110, 107], [116, 111], da] ++ putL [41]) := by
      show _ = _
      rw [hP0.out, nodeR_leaf _ _ (by simp only; omega)]
      simp only [leafR, h3]
      rfl
    have hL : (putAll [[108, 105, 110, 107], [116, 111], da]).length ≤ 1099511628776 := by
      refine Nat.le_trans (putAll_le _) ?_
      simp only [roomOf, List.map_cons, List.sum_cons, List.length_cons, List.length_nil, List.map_nil, List.sum_nil]
      omega
    have HSZ : Hid (w2.heap.size = w2.heap.size) := rfl
    clear h3 hP0
    go_wp2_with fail
    refine (rstrs_any _ [[108, 105, 110, 107], [116, 111], da] _ ?q31 ?q32 ?q33).mono ?_
    case q31 => exact putArg w2 3 _ [[108, 105, 110, 107], [116, 111], da] _ (by simp) rfl rfl (by simp)
    case q32 => simp
    case q33 =>
      simp only [roomOf, List.map_cons, List.sum_cons, List.length_cons, List.length_nil, List.map_nil, List.sum_nil]
      omega
    rintro e w3 ⟨rfl, hk3⟩
    have HK3 : Hid (Keeps Non w w3) := (HK2.out.alloc _).trans hk3 (fun k hk => .inl hk)
    clear hk3
    go_wp2_with fail
    refine (HW.out _).mono ?_
    rintro e w4 ⟨rfl, hk4⟩
    have HK4 : Hid (Keeps Non w w4) := HK3.out.trans hk4 (fun k hk => .inl hk)
    clear hk4
    go_wp2_with fail
    go_ret
    exact ⟨str_ret (by rw [str_app, str_app, HR.out]), HK4.out⟩
  have hb3 : (kd == 3) = false := by rw [beq_eq_false_iff_ne]; exact h3
  have hP1 : Hid (refPackL L = putAll [[40], [116, 121, 112, 101]] ++ putL [100, 105, 114] ++ forest r ++ putL [41]) := by
    show _ = _
    rw [hP0.out, nodeR_dir _ _ (by simp only; omega)]
  have hD : (putL [100, 105, 114]).length ≤ 100 := by rw [putL_length]; have := padN_lt 3; simp; omega
  have hfl : (forest r).length ≤ 70368744177664 := by
    have := HLEN.out
    rw [hP1.out] at this
    simp at this
    omega
  clear h1 h2 h3 hP0 n2
  go_wp2_with fail
  refine (rstr_any [100, 105, 114] _ (by simp)).mono ?_
  rintro e w3 ⟨rfl, hk3⟩
  have HK3 : Hid (Keeps Non w w3) := HK2.out.trans hk3 (fun k hk => .inl hk)
  clear hk3 n1 hb1 hb2 hb3 HK2
  go_wp2_with fail
  rw [str_app]
  have hT2 : (putAll [[40], [116, 121, 112, 101]] ++ putL [100, 105, 114]).length ≤ 200 := by rw [List.length_append]; omega
  generalize putAll [[40], [116, 121, 112, 101]] ++ putL [100, 105, 114] = T2 at *
  clear HBOX2 hT hD HF hda
  have HCE : Hid (∀ (j : Nat) (hj : j < L.length) (w' : World), Keeps Non w w' → w'.cell? ⟨b, off + j * 3, none⟩ = some (.string ⟨(L[j]).path.toArray⟩)) := by
    intro j hj w' hk
    have hat := nodeCells_at L j hj
    have hbw := hk.below (Nat.le_refl _) (fun _ _ h => h)
    exact (hbw.cell (p := ⟨b, off + j * 3, none⟩) (by simp only; omega)).trans ((HC.out _ (by omega)).trans hat.1)
  have hlen := HLEN.out
  rw [hP1.out] at hlen
  simp only [List.length_append] at hlen
  clear hfl HC
  go_loopg [4, 5] (L.length - 1) (fun gk s i wr => ∃ (k : Nat) (done : List UInt8), gk = L.length - k ∧ 1 ≤ k ∧ k ≤ L.length ∧ i = .int .i64 k ∧ s = .string ⟨(T2 ++ done).toArray⟩ ∧ Hid (Keeps Non w wr) ∧ Hid (forest r = done ++ forest (L.drop k)))
  case atStart => exact ⟨1, [], rfl, by omega, by omega, rfl, by rw [List.append_nil], HK3, by show _ = _; rw [← hHR.out]; rfl⟩
  case round =>
    obtain ⟨k, done, rfl, hk1, hk, rfl, rfl, HK, HFO⟩ := hrel
    have hdl : done.length + (forest (L.drop k)).length = (forest r).length := by rw [HFO.out]; simp
    by_cases hlt : k < L.length
    · have hst : L.drop k = L[k] :: L.drop (k + 1) := List.drop_eq_getElem_cons hlt
      have hin0 : Hid (forest (L.drop k) = entryT L[k] ++ (nodeR L[k] (forest (((L.drop (k + 1)).take (k + 1 - (k + 1))) ++ (L.drop (k + 1)).takeWhile fun z => belowB z.path L[k].path)) ++ (putL [41] ++ forest ((L.drop (k + 1)).dropWhile fun z => belowB z.path L[k].path)))) := by
        show _ = _
        rw [hst, forest_cons, Nat.sub_self, List.take_zero, List.nil_append]
      have hf := HFIT.out L[k] (List.getElem_mem hlt)
      have hck := HCE.out k hlt
      have HCK : Hid (∀ (w' : World), Keeps Non w w' → w'.cell? ⟨b, off + k * 3, none⟩ = some (.string ⟨(L[k]).path.toArray⟩)) := hck
      have HGK : Hid (L[k]? = some L[k]) := List.getElem?_eq_getElem hlt
      clear hst hck
      generalize L[k] = N at *
      obtain ⟨y, ky, dy⟩ := N
      simp only at hf
      have HY := Lib.hid hf
      have hy40 := hf.1
      clear hf
      go_wp2_with fail
      go_loopg [6] (L.length - (k + 1)) (fun gj ti wq => ∃ j : Nat, gj = L.length - j ∧ k + 1 ≤ j ∧ j ≤ L.length ∧ ti = .int .i64 j ∧ Hid (Keeps Non w wq) ∧ Hid (forest (L.drop k) = entryT ⟨y, ky, dy⟩ ++ (nodeR ⟨y, ky, dy⟩ (forest (((L.drop (k + 1)).take (j - (k + 1))) ++ (L.drop j).takeWhile fun z => belowB z.path y)) ++ (putL [41] ++ forest ((L.drop j).dropWhile fun z => belowB z.path y)))))
      case atStart => exact ⟨k + 1, rfl, by omega, by omega, by go_num, HK, hin0⟩
      case round =>
        clear HK
        obtain ⟨j, rfl, hkj, hj, rfl, HK, HIN⟩ := hrel
        clear hin0
        go_upto_region 8 with (fail)
        go_cut [41] (fun c wx => (c = .bool true ∧ j < L.length ∧ Hid (Keeps Non w wx) ∧ Hid (forest (L.drop k) = entryT ⟨y, ky, dy⟩ ++ (nodeR ⟨y, ky, dy⟩ (forest (((L.drop (k + 1)).take (j + 1 - (k + 1))) ++ (L.drop (j + 1)).takeWhile fun z => belowB z.path y)) ++ (putL [41] ++ forest ((L.drop (j + 1)).dropWhile fun z => belowB z.path y))))) ∨
          (c = .bool false ∧ Hid (Keeps Non w wx) ∧ Hid (forest (L.drop k) = entryT ⟨y, ky, dy⟩ ++ (nodeR ⟨y, ky, dy⟩ (forest ((L.drop (k + 1)).take (j - (k + 1)))) ++ (putL [41] ++ forest (L.drop j))))))
        case first =>
          by_cases hjl : j < L.length
          · have hcj := HCE.out j hjl wr HK.out
            have hck := HCK.out wr HK.out
            have hfj := (HFIT.out L[j] (List.getElem_mem hjl)).1
            have hsj : L.drop j = L[j] :: L.drop (j + 1) := List.drop_eq_getElem_cons hjl
            have htk : (L.drop (k + 1)).take (j + 1 - (k + 1)) = (L.drop (k + 1)).take (j - (k + 1)) ++ [L[j]] := by
              rw [show j + 1 - (k + 1) = (j - (k + 1)) + 1 by omega, List.take_succ_eq_append_getElem (by simp; omega)]
              simp only [List.getElem_drop]
              congr 2
              congr 1
              omega
            generalize L[j] = M at *
            obtain ⟨z, kz, dz⟩ := M
            simp only at hcj hfj
            have q1 : IntKind.i64.wrap (j : Int) = (j : Int) := IntWalk.i64_in _ (by omega)
            have q2 : (0 : Int) ≤ (j : Int) := by omega
            have q3 : (j : Int) < (L.length : Int) := by omega
            have q4 : IntKind.i64.wrap (k : Int) = (k : Int) := IntWalk.i64_in _ (by omega)
            have q5 : (0 : Int) ≤ (k : Int) := by omega
            have q6 : (k : Int) < (L.length : Int) := by omega
            cases hbz : belowB z y with
            | true =>
              have HN2 : Hid (forest (L.drop k) = entryT ⟨y, ky, dy⟩ ++ (nodeR ⟨y, ky, dy⟩ (forest (((L.drop (k + 1)).take (j + 1 - (k + 1))) ++ (L.drop (j + 1)).takeWhile fun z => belowB z.path y)) ++ (putL [41] ++ forest ((L.drop (j + 1)).dropWhile fun z => belowB z.path y)))) := by
                show _ = _
                rw [HIN.out, htk, hsj, List.takeWhile_cons_of_pos (by simpa using hbz), List.dropWhile_cons_of_pos (by simpa using hbz), List.append_assoc, List.singleton_append]
              have HB : Hid (∀ w' : World, Calls Tryd.prog 39 #[.string ⟨z.toArray⟩, .string ⟨y.toArray⟩] w' fun e w'' => e = .returned (.bool true) ∧ w'' = w') := fun w' => (rbelow_any ⟨z.toArray⟩ ⟨y.toArray⟩ _ (by show y.toArray.size < _; simp; omega) (by show z.toArray.size ≤ _; simp; omega)).mono (by rintro e w2 ⟨rfl, rfl⟩; exact ⟨bool_ret hbz, rfl⟩)
              clear hsj htk HIN hbz
              go_quiet (first | (go_at_call 39; exact Calls.quiet_of_same (HB.out _)))
              go_wp2_with fail
              go_meet
              exact .inl ⟨rfl, hjl, HK.out.drewN _, HN2⟩
            | false =>
              have HN2 : Hid (forest (L.drop k) = entryT ⟨y, ky, dy⟩ ++ (nodeR ⟨y, ky, dy⟩ (forest ((L.drop (k + 1)).take (j - (k + 1)))) ++ (putL [41] ++ forest (L.drop j)))) := by
                show _ = _
                rw [HIN.out, hsj, List.takeWhile_cons_of_neg (by simp [hbz]), List.dropWhile_cons_of_neg (by simp [hbz]), List.append_nil]
              have HB : Hid (∀ w' : World, Calls Tryd.prog 39 #[.string ⟨z.toArray⟩, .string ⟨y.toArray⟩] w' fun e w'' => e = .returned (.bool false) ∧ w'' = w') := fun w' => (rbelow_any ⟨z.toArray⟩ ⟨y.toArray⟩ _ (by show y.toArray.size < _; simp; omega) (by show z.toArray.size ≤ _; simp; omega)).mono (by rintro e w2 ⟨rfl, rfl⟩; exact ⟨bool_ret hbz, rfl⟩)
              clear hsj htk HIN hbz
              go_quiet (first | (go_at_call 39; exact Calls.quiet_of_same (HB.out _)))
              go_wp2_with fail
              go_meet
              exact .inr ⟨rfl, HK.out.drewN _, HN2⟩
          · have HN2 : Hid (forest (L.drop k) = entryT ⟨y, ky, dy⟩ ++ (nodeR ⟨y, ky, dy⟩ (forest ((L.drop (k + 1)).take (j - (k + 1)))) ++ (putL [41] ++ forest (L.drop j)))) := by
              show _ = _
              have hd : L.drop j = [] := List.drop_eq_nil_of_le (by omega)
              rw [HIN.out, hd]
              simp only [List.takeWhile_nil, List.dropWhile_nil, List.append_nil]
            have hd1 : decide ((j : Int) < (L.length : Int)) = false := by simp; omega
            clear HIN
            go_quiet (fail)
            go_wp2_with fail
            go_meet
            exact .inr ⟨rfl, HK.out.drewN _, HN2⟩
        case rest =>
          rcases hcut with ⟨rfl, hjl, HK2, HIN2⟩ | ⟨rfl, HK2, HIN2⟩
          · clear HIN HK
            go_wp2_with fail
            go_roundg (L.length - (j + 1))
            case measure => omega
            case rel => exact ⟨j + 1, rfl, by omega, by omega, by go_num, HK2, HIN2⟩
          · clear HIN HK
            have hcy := HCK.out wc HK2.out
            go_upto_region 11 with (fail)
            refine (rsplit_any ⟨y.toArray⟩ _ (by show y.toArray.size ≤ _; simp; unfold maxLen; omega)).mono ?_
            rintro e wd ⟨rfl, hkd⟩
            have HK3 : Hid (Keeps Non w wd) := HK2.out.trans hkd (fun k hk => .inl hk)
            clear hkd HK2 hcy
            rw [show (⟨y.toArray⟩ : ByteArray).data.toList = y from rfl]
            have hnl : (dirOf y).2.length ≤ 1099511627776 := Nat.le_trans (by have := (dirOf_le ⟨y.toArray⟩).2; rw [show (⟨y.toArray⟩ : ByteArray).data.toList = y from rfl] at this; exact this) (by show y.toArray.size ≤ _; simp; omega)
            have HEN : Hid (entryT ⟨y, ky, dy⟩ = putAll [[101, 110, 116, 114, 121], [40], [110, 97, 109, 101], (dirOf y).2, [110, 111, 100, 101]]) := rfl
            generalize dirOf y = DN at *
            obtain ⟨dir, nm⟩ := DN
            simp only at hnl HEN ⊢
            -- the nodes of the part
            have hpart : (L.drop k).take (j - k) = ⟨y, ky, dy⟩ :: (L.drop (k + 1)).take (j - (k + 1)) := by
              have h1 := HGK.out
              rw [List.getElem?_eq_getElem hlt] at h1
              rw [List.drop_eq_getElem_cons hlt, Option.some.inj h1, show j - k = (j - (k + 1)) + 1 by omega, List.take_succ_cons]
            have hpl : ((L.drop k).take (j - k)).length = j - k := by simp; omega
            have hrp : refPackL ((L.drop k).take (j - k)) = nodeR ⟨y, ky, dy⟩ (forest ((L.drop (k + 1)).take (j - (k + 1)))) := by rw [hpart]; rfl
            have hFO2 : Hid (forest r = (done ++ (putAll [[101, 110, 116, 114, 121], [40], [110, 97, 109, 101], nm, [110, 111, 100, 101]] ++ refPackL ((L.drop k).take (j - k)) ++ putL [41])) ++ forest (L.drop j)) := by
              show _ = _
              rw [HFO.out, HIN2.out, HEN.out, hrp]
              simp only [List.append_assoc]
            have hln : done.length + ((putAll [[101, 110, 116, 114, 121], [40], [110, 97, 109, 101], nm, [110, 111, 100, 101]]).length + (refPackL ((L.drop k).take (j - k))).length + (putL [41]).length) + (forest (L.drop j)).length = (forest r).length := by
              rw [hFO2.out]; simp only [List.length_append]
            have HPK : Hid (∀ w' : World, Keeps Non w w' → Calls Tryd.prog 18 #[.slice (some ⟨b, off + k * 3, none⟩) (j - k) (cap - k)] w' fun e w'' => e = .returned (.string ⟨(refPackL ((L.drop k).take (j - k))).toArray⟩) ∧ Keeps Non w w'' ∧ Keeps Non w' w'') := by
              intro w' hk'
              have hcells : nodeCells ((L.drop k).take (j - k)) = ((nodeCells L).drop (k * 3)).take ((j - k) * 3) := by
                have key : ∀ (a c : List Node), (nodeCells (a ++ c)).take (a.length * 3) = nodeCells a ∧ (nodeCells (a ++ c)).drop (a.length * 3) = nodeCells c := by
                  intro a c
                  rw [nodeCells_append, ← nodeCells_length]
                  exact ⟨List.take_left, List.drop_left⟩
                have e1 := (key (L.take k) (L.drop k)).2
                rw [List.take_append_drop, List.length_take, Nat.min_eq_left (by omega)] at e1
                have e2 := (key ((L.drop k).take (j - k)) ((L.drop k).drop (j - k))).1
                rw [List.take_append_drop, hpl] at e2
                rw [e1, e2]
              have hcut := (HV.out.non hk').cut (lo := k) (hi := j) (by omega) hj
              rw [← hcells] at hcut
              refine (HIH.out ((L.drop k).take (j - k)) _ w' (by omega) (by rw [hpart]; simp) (by rw [hpl]; exact hcut) (fun n hn => HFIT.out n (List.mem_of_mem_drop (List.mem_of_mem_take hn))) (by omega)).mono ?_
              rintro e w2 ⟨rfl, hk2⟩
              exact ⟨rfl, hk'.trans hk2 (fun k hk => .inl hk), hk2⟩
            have HST : Hid (∀ (w' : World) (sz : Nat), Blk w' sz #[.string ⟨#[101, 110, 116, 114, 121]⟩, .string ⟨#[40]⟩, .string ⟨#[110, 97, 109, 101]⟩, .string ⟨nm.toArray⟩, .string ⟨#[110, 111, 100, 101]⟩] 9 → Keeps Non w w' →
                Calls Tryd.prog 41 #[.slice (some ⟨sz, 0, none⟩) 5 5] w' fun e w'' => e = .returned (.string ⟨(putAll [[101, 110, 116, 114, 121], [40], [110, 97, 109, 101], nm, [110, 111, 100, 101]]).toArray⟩) ∧ Keeps Non w w'') := by
              intro w' sz hb hk'
              refine (rstrs_any _ [[101, 110, 116, 114, 121], [40], [110, 97, 109, 101], nm, [110, 111, 100, 101]] w' (argBlk 5 [[101, 110, 116, 114, 121], [40], [110, 97, 109, 101], nm, [110, 111, 100, 101]] hb rfl rfl (by simp)) (by simp) ?_).mono ?_
              · simp only [roomOf, List.map_cons, List.sum_cons, List.length_cons, List.length_nil, List.map_nil, List.sum_nil]; omega
              · rintro e w2 ⟨rfl, hk2⟩
                exact ⟨rfl, hk'.trans hk2 (fun k hk => .inl hk)⟩
            have HSR : Hid (∀ (w' : World), Keeps Non w w' → Calls Tryd.prog 17 #[.string ⟨#[41]⟩] w' fun e w'' => e = .returned (.string ⟨(putL [41]).toArray⟩) ∧ Keeps Non w w'' ∧ Keeps Non w' w'') := fun w' hk' => (HW.out w').mono fun e w2 ⟨he, hk2⟩ => ⟨he, hk'.trans hk2 (fun k hk => .inl hk), hk2⟩
            have q1 : IntKind.i64.wrap (j : Int) = (j : Int) := IntWalk.i64_in _ (by omega)
            have q2 : (0 : Int) ≤ (j : Int) := by omega
            have q3 : (j : Int) ≤ (L.length : Int) := by omega
            have q4 : IntKind.i64.wrap (k : Int) = (k : Int) := IntWalk.i64_in _ (by omega)
            have q5 : (0 : Int) ≤ (k : Int) := by omega
            have q6 : (k : Int) ≤ (j : Int) := by omega
            have q7 : ¬ cap = k := by omega
            clear hpart hrp HIN2 HFO hdl HCK HGK HY HEN
            unfold sv
            go_wp2_with fail
            have hc := HK3.out
            go_region_with (first
              | (go_at_call 17; refine (HSR.out _ (by first | exact hc | exact hc.alloc _ | exact (hc.alloc _).drew | exact hc.drew | exact (hc.drew).alloc _)).mono ?_; clear hc; rintro e w' ⟨rfl, hc, hkS⟩)
              | (go_at_call 18; refine (HPK.out _ (by first | exact hc | exact hc.alloc _ | exact (hc.alloc _).drew | exact hc.drew | exact (hc.drew).alloc _)).mono ?_; clear hc; rintro e w' ⟨rfl, hc, hkP⟩)
              | (go_at_call 41; refine (HST.out _ _ (by first | exact Blk.new _ _ _ | exact (Blk.new _ _ _).drew | exact (Blk.new _ _ _).keeps hkP (fun h => h) | exact (Blk.new _ _ _).keeps hkS (fun h => h) | exact (Blk.new _ _ _).drew.keeps hkP (fun h => h) | exact (Blk.new _ _ _).drew.keeps hkS (fun h => h) | exact ((Blk.new _ _ _).keeps hkP (fun h => h)).keeps hkS (fun h => h) | exact ((Blk.new _ _ _).keeps hkS (fun h => h)).keeps hkP (fun h => h) | exact ((Blk.new _ _ _).drew.keeps hkP (fun h => h)).keeps hkS (fun h => h) | exact ((Blk.new _ _ _).drew.keeps hkS (fun h => h)).keeps hkP (fun h => h)) (by first | exact hc | exact hc.alloc _ | exact (hc.alloc _).drew | exact hc.drew | exact (hc.drew).alloc _)).mono ?_; clear hc; rintro e w' ⟨rfl, hc⟩))
            all_goals (
              have HKZ : Hid (Keeps Non w w') := (by first | exact hc | exact hc.drew)
              clear hc
              go_wp2_with fail
              go_roundg (L.length - j))
            all_goals first
              | (case measure => omega)
              | (case rel => exact ⟨j, done ++ (putAll [[101, 110, 116, 114, 121], [40], [110, 97, 109, 101], nm, [110, 111, 100, 101]] ++ refPackL ((L.drop k).take (j - k)) ++ putL [41]), rfl, by omega, hj, rfl, by rw [str_app, str_app, str_app, List.append_assoc T2], HKZ, hFO2⟩)
    · have HF : Hid (refPackL L = T2 ++ done ++ putL [41]) := by
        show _ = _
        rw [hP1.out, HFO.out, List.drop_eq_nil_of_le (by omega)]
        have : forest [] = [] := rfl
        rw [this, List.append_nil]
      clear HFO
      go_wp2_with fail
      refine (HW.out _).mono ?_
      rintro e w5 ⟨rfl, hk5⟩
      have HK5 : Hid (Keeps Non w w5) := HK.out.trans hk5 (fun k hk => .inl hk)
      clear hk5
      go_wp2_with fail
      go_ret
      exact ⟨str_ret (by rw [str_app, HF.out]), HK5.out⟩
end Go.Proofs.YtohbjbicmgnblaaDoor
