/- The law Packs: of every list of nodes the program's answer is the document's: the bytes of the tree, or the first node that is wrong. Conditions: as the given row has them (the tables of unicode/utf8 hold what the program's text lays). -/
import Derived.Test.YtflkafnhhadphaaDoorRows
import Derived.Test.YtflkafnhhadphaaDoorCards
import Derived.Test.YtflkafnhhadphaaDoorTie
import Derived.Test.YtflkafnhhadphaaDoorLaw
import Derived.OpenShut
namespace Go.Proofs.YtflkafnhhadphaaDoor.packs
open Go.ChangeShapes Go.WideShapes Go.ChangeAt Go.RowKit Go.Lib Go.Shelf
set_option linter.unusedVariables false

theorem own : ownKnob Tryd.prog.godebug = none := by kernel_rfl
theorem infoNode : (Tryd.prog.info? 34).map (fun i => (i.zero, i.size, i.bytes)) = some (some (.agg #[.string ⟨#[]⟩, .int .i64 0, .string ⟨#[]⟩]), 3, 40) := by kernel_rfl

set_option maxHeartbeats 800000 in
set_option maxRecDepth 100000 in
theorem walk (v : Value) (l : List Node) (w : World) (hv : Rd w 3 v l.length (nodeCells l)) (hT : Tabs w) (hfit : NodesReach l) (hl47 : l.length ≤ 140737488355328) :
    Calls Tryd.prog 3 #[v] w fun e w' => e = .returned (.bool true) ∧ Keeps Non w w' := by
  have HV := Lib.hid hv
  have HT := Lib.hid hT
  have HFIT := Lib.hid hfit
  clear hv hT hfit
  obtain ⟨i0, hi, hz0, hz1, hz2⟩ := info_parts infoNode
  by_cases hw : 262144 < weightL l
  · clear hi hz0 hz1 hz2
    have hd : decide ((262144 : Int) < weightL l) = true := by simpa using hw
    go_enter Tryd.func3, Tryd.ntmps3
    go_wp2_with fail
    refine (weight_any v l _ HV.out HFIT.out hl47).mono ?_
    rintro e w1 ⟨rfl, hk1⟩
    have HK1 := Lib.hid hk1
    clear hk1
    go_wp2_with fail
    go_ret
    exact ⟨rfl, HK1.out⟩
  · have hd : decide ((262144 : Int) < weightL l) = false := by simpa using hw
    have hle := weight_le (l := l) (by omega)
    have HSM : Hid (NodesSmall l) := nodeCells_small (l := l) (by omega)
    have hlen := packP_len l
    have HLEN : Hid ((packP l).length ≤ 70368744177664) := by show _ ≤ _; omega
    clear hlen hw
    go_enter Tryd.func3, Tryd.ntmps3
    go_wp2_with fail
    refine (weight_any v l _ HV.out HFIT.out hl47).mono ?_
    rintro e w1 ⟨rfl, hk1⟩
    have HK1 := Lib.hid hk1
    have HV1 := Lib.hid (HV.out.non hk1)
    clear hk1
    go_wp2_with (at_builtin; refine wpList_append_sl rfl _ _ 22 22 rfl 34 i0 _ 3 40 Tryd.underlying22 hi hz0 hz1 hz2 rfl w1.heap.size _ _ _ rfl _ rfl l.length (nodeCells l) ?c1 (Sl.nil _ _ _ _) ?c2 ?c3 ?c4 ?_)
    case c1 => exact Nat.le_refl _
    case c2 => exact Src.ofRd Tryd.underlying22 HV1.out (nodeCells_one l)
    case c3 => unfold maxLen; omega
    case c4 => omega
    intro v' w2 hs2 hk2 hb2
    clear hb2
    have HR2 : Hid (Rd w2 3 v' l.length (nodeCells l)) := hs2.rd
    have HK2 : Hid (Keeps Non w w2) := HK1.out.trans (hk2.keeps (Nat.le_refl _)) (fun k hk => .inl hk)
    obtain ⟨ao, cc, rfl, -, -⟩ := hs2.shape
    clear hs2 hk2 HV1 HK1 hi hz0 hz1 hz2
    rcases wrong_range l with hgood | hbad
    · have HG := Lib.hid hgood
      clear hgood
      go_wp2_with fail
      refine (npack_good v l _ (HV.out.non HK2.out) (HT.out.keeps HK2.out) HSM.out HG.out HLEN.out).mono ?_
      rintro e w3 ⟨rfl, hk3⟩
      have HK3 : Hid (Keeps Non w w3) := HK2.out.trans hk3 (fun k hk => .inl hk)
      have HR3 := Lib.hid (HR2.out.non hk3)
      clear hk3 HR2 HK2
      go_wp2_with fail
      refine (sameTree_any v _ l _ (HV.out.non HK3.out) HR3.out hl47).mono ?_
      rintro e w4 ⟨rfl, hk4⟩
      have HK4 : Hid (Keeps Non w w4) := HK3.out.trans hk4 (fun k hk => .inl hk)
      have HR4 := Lib.hid (HR3.out.non hk4)
      clear hk4 HR3 HK3
      go_wp2_with fail
      refine (rwrong_any _ l _ HR4.out (fun n hn => by have := HSM.out n hn; omega)).mono ?_
      rintro e w5 ⟨rfl, hk5⟩
      have HK5 : Hid (Keeps Non w w5) := HK4.out.trans hk5 (fun k hk => .inl hk)
      have HR5 := Lib.hid (HR4.out.non hk5)
      clear hk5 HR4 HK4
      rw [show refWrongL l = -1 by rw [← wrong_eq]; exact HG.out]
      go_wp2_with fail
      refine (rPack_any _ l _ HR5.out HSM.out HG.out HLEN.out).mono ?_
      rintro e w6 ⟨rfl, hk6⟩
      have HK6 : Hid (Keeps Non w w6) := HK5.out.trans hk6 (fun k hk => .inl hk)
      clear hk6 HR5 HK5
      go_wp2_with fail
      go_ret
      exact ⟨rfl, HK6.out⟩
    · obtain ⟨z, hz⟩ : ∃ z, wrongL l = z := ⟨_, rfl⟩
      rw [hz] at hbad
      have HZ := Lib.hid hz
      clear hz
      go_wp2_with fail
      refine (npack_bad v l _ (HV.out.non HK2.out) (HT.out.keeps HK2.out) HSM.out z HZ.out hbad).mono ?_
      rintro e w3 ⟨rfl, hk3⟩
      have HK3 : Hid (Keeps Non w w3) := HK2.out.trans hk3 (fun k hk => .inl hk)
      have HR3 := Lib.hid (HR2.out.non hk3)
      clear hk3 HR2 HK2
      go_wp2_with fail
      refine (sameTree_any v _ l _ (HV.out.non HK3.out) HR3.out hl47).mono ?_
      rintro e w4 ⟨rfl, hk4⟩
      have HK4 : Hid (Keeps Non w w4) := HK3.out.trans hk4 (fun k hk => .inl hk)
      have HR4 := Lib.hid (HR3.out.non hk4)
      clear hk4 HR3 HK3
      go_wp2_with fail
      refine (rwrong_any _ l _ HR4.out (fun n hn => by have := HSM.out n hn; omega)).mono ?_
      rintro e w5 ⟨rfl, hk5⟩
      have HK5 : Hid (Keeps Non w w5) := HK4.out.trans hk5 (fun k hk => .inl hk)
      clear hk5 HR4 HK4
      rw [show refWrongL l = z by rw [← wrong_eq]; exact HZ.out]
      go_wp2_with fail
      go_ret
      exact ⟨rfl, HK5.out⟩

/-- a world for the witness: the tables hold what their initialisers lay -/
noncomputable def laidWorld (os : Os) : World :=
  let w0 := World.holding Tryd.prog os ⟨#[], #[], []⟩
  let put (h : Array Obj) (g : Nat) (cs : Array Value) : Array Obj := h.modify g fun
    | .cells _ t frozen => .cells cs t frozen
    | o => o
  let h1 := put w0.heap 1 (Lib.firstTab.map fun z => Value.int .u8 z).toArray
  let h2 := put h1 2 ((List.range 16).flatMap fun i => [Value.int .u8 (Lib.accLo i), Value.int .u8 (Lib.accHi i)]).toArray
  { w0 with heap := h2 }
set_option maxRecDepth 100000 in
theorem laid_met (os : Os) (args : Array Value) : laidMet Tryd.prog Rows.packsRow.laid ((laidWorld os).forCall (fun _ _ => 0) ⟨#[], args, []⟩).memory :=
  (LaidIn.of_run (l := [("unicode/utf8.acceptRanges", Lib.acceptData), ("unicode/utf8.first", Lib.firstData)]) [2, 1] 8 (by kernel_rfl) (by kernel_rfl) (by kernel_rfl) (by kernel_rfl)).met

set_option maxRecDepth 100000 in
theorem witness_row (os : Os) {H : Type} (enc : TypeId × Value → H) :
    (OpenSpec.ofChange Rows.packsSpec).preRow enc Tryd.prog Tryd.f3 Rows.packsRow.domain false Rows.packsRow.laid ((laidWorld os).forCall (fun _ _ => 0) ⟨#[], #[.slice none 0 0], []⟩).memory #[.slice none 0 0] := by
  have hw : (DataW.whole enc Tryd.prog ((laidWorld os).forCall (fun _ _ => 0) ⟨#[], #[.slice none 0 0], []⟩).memory Tryd.f3.params.toList Rows.packsSpec.vars false #[Value.slice none 0 0].toList 8).map (fun x => (x.1, x.2.1)) =
      some ([.nil], []) := by kernel_rfl
  obtain ⟨⟨x1, x2, x3⟩, hx, hx1⟩ := Option.map_eq_some_iff.1 hw
  simp only [Prod.mk.injEq] at hx1
  obtain ⟨rfl, rfl⟩ := hx1
  exact OpenSpec.preRow_of_cond 8 hx (by kernel_rfl) (fun k hk => by cases hk) (by kernel_rfl) (laid_met os _)

set_option maxRecDepth 100000 in
set_option maxHeartbeats 2000000 in
theorem lifted (os : Os) (started : os.Started) (H : Type) (enc : TypeId × Value → H) (F : Stop.Interp) :
    ReturnsInHanded {} Tryd.checked os 3 .any ((OpenSpec.ofChange Rows.packsSpec).preRow enc Tryd.prog Tryd.f3 Rows.packsRow.domain false Rows.packsRow.laid) (((OpenSpec.ofChange Rows.packsSpec).at F).post enc Tryd.prog Tryd.f3 false true false false) := by
  refine returnsInHanded_of_row (C := Tryd.checked) (s := OpenSpec.ofChange Rows.packsSpec) own started (by kernel_rfl) Tryd.func3
    (witness_row_atRef (enc := enc) (C := Tryd.checked) false (laidWorld os) #[.slice none 0 0] rfl (by kernel_rfl) (by kernel_rfl) (by kernel_rfl) (witness_row os enc)) ?_
  intro W base args ds gs before hval hW _ _ hz hL _ _
  have hW' := hW
  obtain ⟨p, q, hA0, hV0, rfl, _, _⟩ := hW
  have hA : DataW.TrodAll enc Tryd.prog W 0 (fun _ => true) true Tryd.f3.params.toList args.toList ds p := hA0
  rw [Tryd.params3] at hA hz
  obtain ⟨v0, d0, rfl, rfl, h0⟩ := trodAll_one hA
  obtain ⟨rfl, rfl⟩ := trodVars_none hV0
  have hv0 := hval 0 22 v0 (by rw [Tryd.params3]; rfl) rfl
  obtain ⟨l, hl, hreach, hlen⟩ := open_nodes hv0 h0 (fun n hn => of_decide_eq_true (List.all_eq_true.1 hz n (by
    simp only [List.append_nil]
    exact List.mem_append_left _ hn)))
  have htab : Tabs W :=
    utf8Tabs_of_readsT (U8Types.of196 Tryd.laysValid) ⟨by kernel_rfl, by kernel_rfl, by kernel_rfl, by kernel_rfl, by kernel_rfl, by kernel_rfl, by kernel_rfl⟩ (Lib.laidMet.reads hL (.tail _ (.head _))) (Lib.laidMet.reads hL (.head _))
  refine (walk v0 l W hl htab hreach hlen).mono ?_
  rintro e W' ⟨rfl, hk⟩
  exact ⟨_, rfl, post_law 4 (by kernel_rfl) (by rw [Tryd.params3]; intro t ht; simp only [List.mem_singleton] at ht; subst ht; exact ⟨by kernel_rfl, of_decide_eq_true (by kernel_rfl)⟩) rfl rfl Tryd.underlying4 hW' ⟨rfl, rfl, rfl⟩ (hk.below (Nat.le_refl _) (fun _ _ h => h))⟩

theorem said : Rows.PacksSaid :=
  OpenClaim.holds_of_cond 3 Tryd.f3 rfl rfl rfl rfl rfl rfl rfl ⟨rfl, rfl, rfl, rfl, rfl⟩ rfl rfl rfl rfl rfl (by kernel_rfl) Tryd.func3 (by kernel_rfl)
    (of_decide_eq_true (by kernel_rfl)) (by unfold Func.isWrapper; first | (rw [if_pos (by decide +kernel)]; kernel_rfl) | (rw [if_neg (by decide +kernel)]; exact ⟨rfl, rfl⟩))
    (fun os started H enc _ F => by rw [OpenClaim.pre_eq_preRow]; exact lifted os started H enc F)

theorem plain (f : FuncId) (fn : Func) (hf : Tryd.pinned.checked.prog.funcNamed "nar/narlaw.Packs" = some f) (hfn : Tryd.pinned.checked.prog.funcs[f]? = some fn) :
    false = Tryd.pinned.checked.prog.looks [] ∧ ∀ (j : Nat) t, fn.params[j]? = some t → Tryd.pinned.checked.prog.wantsStandIn t = false := by
  obtain rfl : f = 3 := Option.some.inj ((show Tryd.prog.funcNamed "nar/narlaw.Packs" = some 3 by kernel_rfl).symm.trans hf) |>.symm
  obtain rfl : fn = Tryd.f3 := (Option.some.inj (Tryd.func3.symm.trans hfn)).symm
  refine ⟨by kernel_rfl, fun j t ht => ?_⟩
  rw [Tryd.params3] at ht
  obtain rfl : t = 22 := by simpa using Array.mem_of_getElem? ht
  exact (show Tryd.prog.wantsStandIn 22 = false by kernel_rfl)

theorem proved : Rows.PacksCardSaid :=
  Claim7.holds_tied_plain_at .later [] _ _ _ _ said (fun _ h => by cases h) (by kernel_rfl) (fun _ h => by cases h) packs_row_tie rfl ⟨rfl, rfl⟩ (by kernel_rfl) rfl plain (by kernel_rfl)
#print axioms proved
end Go.Proofs.YtflkafnhhadphaaDoor.packs
