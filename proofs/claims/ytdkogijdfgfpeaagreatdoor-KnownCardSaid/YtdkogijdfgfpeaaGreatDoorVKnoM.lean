/- The tables of narkeep.Known in memory. -/
import Derived.Test.YtdkogijdfgfpeaaGreatDoorVExpW
import Derived.Test.YtdkogijdfgfpeaaGreatDoorVRefN
import Derived.Test.YtdkogijdfgfpeaaGreatDoorVPack
import Derived.Laws.EntriesVeiled
set_option linter.unusedVariables false
namespace Go.Proofs.YtdkogijdfgfpeaaGreatDoor
open Go Go.RowKit
theorem nsum_any (s : ByteArray) (w : World) (hs : s.size ≤ maxLen) :
 Calls Tryz.prog 26 #[.string s] w fun e w' => e = .returned (.string (sumOf s.data.toList)) ∧ Keeps Non w w' := by
 go_enter Tryz.func26, Tryz.ntmps26
 go_wp2_with fail
 refine (sum_any s _ hs).mono ?_
 rintro e w' ⟨rfl, hk⟩
 have HK := Lib.hid hk
 clear hk
 go_wp2_with fail
 go_ret
 exact ⟨rfl, HK.out⟩
def KIt (w : World) (B : Nat) (x : Value) (r : KRow) : Prop := ∃ vt vr, x = .agg #[sv r.name, vt, vr, .int .i64 r.e] ∧ Sl w B 49 3 vt r.l.length (nodeCells r.l) ∧ Sl w B 9 1 vr r.refs.length (svs r.refs)
theorem KIt.keeps {S : Nat → Prop} {w w' : World} {B : Nat} {x : Value} {r : KRow} (h : KIt w B x r) (k : Keeps S w w') (hs : ∀ b, S b → b < B) : KIt w' B x r := by
 obtain ⟨vt, vr, rfl, h1, h2⟩ := h
 exact ⟨vt, vr, rfl, h1.keep fun b c _ hB hb => hb.keeps k fun h => by have := hs b h; omega, h2.keep fun b c _ hB hb => hb.keeps k fun h => by have := hs b h; omega⟩
def KIts (w : World) (B : Nat) : List Value → List KRow → Prop
 | [], [] => True
 | x :: xs, r :: rs => KIt w B x r ∧ KIts w B xs rs
 | [], _ :: _ => False
 | _ :: _, [] => False
theorem KIts.keeps {S : Nat → Prop} {w w' : World} {B : Nat} (k : Keeps S w w') (hs : ∀ b, S b → b < B) : ∀ {xs : List Value} {rs : List KRow}, KIts w B xs rs → KIts w' B xs rs
 | [], [], _ => trivial
 | x :: xs, r :: rs, h => ⟨h.1.keeps k hs, h.2.keeps k hs⟩
theorem KIts.non {w w' : World} {B : Nat} {xs : List Value} {rs : List KRow} (h : KIts w B xs rs) (k : Keeps Non w w') : KIts w' B xs rs := h.keeps k fun _ h => h.elim
theorem KIts.snoc {w : World} {B : Nat} {x : Value} {r : KRow} (hx : KIt w B x r) : ∀ {xs : List Value} {rs : List KRow}, KIts w B xs rs → KIts w B (xs ++ [x]) (rs ++ [r])
 | [], [], _ => ⟨hx, trivial⟩
 | x :: xs, r :: rs, h => ⟨h.1, KIts.snoc hx h.2⟩
theorem KIts.at' {w : World} {B : Nat} : ∀ {xs : List Value} {rs : List KRow}, KIts w B xs rs → ∀ {i : Nat} {r : KRow}, rs[i]? = some r → ∃ vt vr, (xs.flatMap fun | .agg a => a.toList | _ => [])[i * 4]? = some (sv r.name) ∧ (xs.flatMap fun | .agg a => a.toList | _ => [])[i * 4 + 1]? = some vt ∧
 (xs.flatMap fun | .agg a => a.toList | _ => [])[i * 4 + 2]? = some vr ∧ (xs.flatMap fun | .agg a => a.toList | _ => [])[i * 4 + 3]? = some (.int .i64 r.e) ∧ Sl w B 49 3 vt r.l.length (nodeCells r.l) ∧ Sl w B 9 1 vr r.refs.length (svs r.refs)
 | [], [], _, i, r, hr => by simp at hr
 | x :: xs, q :: rs, h, 0, r, hr => by
   simp only [List.getElem?_cons_zero, Option.some.injEq] at hr
   subst hr
   obtain ⟨⟨vt, vr, rfl, h1, h2⟩, -⟩ := h
   exact ⟨vt, vr, rfl, rfl, rfl, rfl, h1, h2⟩
 | x :: xs, q :: rs, h, i + 1, r, hr => by
   simp only [List.getElem?_cons_succ] at hr
   obtain ⟨vt, vr, h1, h2, h3, h4, h5, h6⟩ := h.2.at' hr
   obtain ⟨⟨vt', vr', rfl, -, -⟩, -⟩ := h
   have key : ∀ k, (List.flatMap (fun x => match x with | .agg a => a.toList | _ => []) (Value.agg #[sv q.name, vt', vr', .int .i64 q.e] :: xs))[(i + 1) * 4 + k]? = (List.flatMap (fun x => match x with | .agg a => a.toList | _ => []) xs)[i * 4 + k]? := fun k => by
    rw [List.flatMap_cons, List.getElem?_append_right (by show 4 ≤ _; omega)]
    congr 1
    show (i + 1) * 4 + k - 4 = _
    omega
   exact ⟨vt, vr, (key 0).trans h1, (key 1).trans h2, (key 2).trans h3, (key 3).trans h4, h5, h6⟩
def KTab (w : World) (B tb : Nat) : Prop := ∃ c T, Blk w tb c T ∧ B ≤ tb ∧ ∀ i r, kRows[i]? = some r → ∃ vt vr, c[i * 4]? = some (sv r.name) ∧ c[i * 4 + 1]? = some vt ∧ c[i * 4 + 2]? = some vr ∧ c[i * 4 + 3]? = some (.int .i64 r.e) ∧
    Sl w B 49 3 vt r.l.length (nodeCells r.l) ∧ Sl w B 9 1 vr r.refs.length (svs r.refs)
theorem KTab.of {w : World} {B tb : Nat} {T : TypeId} {xs : List Value} (h : KIts w B xs kRows) (hB : B ≤ tb) (hb : Blk w tb (xs.flatMap fun | .agg a => a.toList | _ => []).toArray T) : KTab w B tb :=
 ⟨_, T, hb, hB, fun i r hr => by simpa using h.at' hr⟩
theorem KTab.keeps {S : Nat → Prop} {w w' : World} {B tb : Nat} (h : KTab w B tb) (k : Keeps S w w') (hs : ∀ b, S b → b < B) : KTab w' B tb := by
 obtain ⟨c, T, h1, h2, h3⟩ := h
 refine ⟨c, T, h1.keeps k fun h => by have := hs tb h; omega, h2, fun i r hr => ?_⟩
 obtain ⟨vt, vr, g1, g2, g3, g4, g5, g6⟩ := h3 i r hr
 exact ⟨vt, vr, g1, g2, g3, g4, g5.keep fun b c _ hB hb => hb.keeps k fun h => by have := hs b h; omega, g6.keep fun b c _ hB hb => hb.keeps k fun h => by have := hs b h; omega⟩
def KTab2 (w : World) (tb : Nat) : Prop := ∃ c T, Blk w tb c T ∧ ∀ i r, kImps[i]? = some r → c[i * 3]? = some (sv r.s) ∧ c[i * 3 + 1]? = some (.int .i64 r.e) ∧ c[i * 3 + 2]? = some (.int .i64 r.at')
def kCells (r : KImp) : List Value := [sv r.s, .int .i64 r.e, .int .i64 r.at']
theorem kCells_at : ∀ {rs : List KImp} {i : Nat} {r : KImp}, rs[i]? = some r → (rs.flatMap kCells)[i * 3]? = some (sv r.s) ∧ (rs.flatMap kCells)[i * 3 + 1]? = some (.int .i64 r.e) ∧ (rs.flatMap kCells)[i * 3 + 2]? = some (.int .i64 r.at')
 | [], i, r, hr => by simp at hr
 | q :: rs, 0, r, hr => by
   simp only [List.getElem?_cons_zero, Option.some.injEq] at hr
   subst hr
   exact ⟨rfl, rfl, rfl⟩
 | q :: rs, i + 1, r, hr => by
   simp only [List.getElem?_cons_succ] at hr
   obtain ⟨h1, h2, h3⟩ := kCells_at hr
   have key : ∀ k, ((q :: rs).flatMap kCells)[(i + 1) * 3 + k]? = (rs.flatMap kCells)[i * 3 + k]? := fun k => by
    rw [List.flatMap_cons, List.getElem?_append_right (by show 3 ≤ _; omega)]
    congr 1
    show (i + 1) * 3 + k - 3 = _
    omega
   exact ⟨(key 0).trans h1, (key 1).trans h2, (key 2).trans h3⟩
theorem KTab2.of {w : World} {tb : Nat} {T : TypeId} {c : Array Value} (hb : Blk w tb c T) (hc : c = (kImps.flatMap kCells).toArray) : KTab2 w tb :=
 ⟨_, T, hb, fun i r hr => by subst hc; simpa using kCells_at hr⟩
theorem KTab2.non {w w' : World} {tb : Nat} (h : KTab2 w tb) (k : Keeps Non w w') : KTab2 w' tb := by
 obtain ⟨c, T, h1, h3⟩ := h
 exact ⟨c, T, h1.keeps k fun h => h, h3⟩
theorem KIt.mk {w : World} {B : Nat} {r : KRow} {vt vr : Value} (h1 : Sl w B 49 3 vt r.l.length (nodeCells r.l)) (h2 : Sl w B 9 1 vr r.refs.length (svs r.refs)) : KIt w B (.agg #[sv r.name, vt, vr, .int .i64 r.e]) r := ⟨vt, vr, rfl, h1, h2⟩
theorem kreach_clos {L : Ents} {roots K K' : List (List UInt8)} (hok : StoreOk L) (h : ReachOf L roots K) (h' : ReachOf L roots K') : closL L K = closL L K' := by
 unfold closL
 refine closF_same (fun p => ?_) _ _
 rw [Bool.eq_iff_iff, List.contains_iff_mem, List.contains_iff_mem]
 have key : ∀ {A B : List (List UInt8)}, ReachOf L roots A → ReachOf L roots B → ∀ q ∈ A, q ∈ B := fun {A B} ha hb => ha.least (fun q => q ∈ B) (fun e he hp r hr => by
  obtain ⟨o, ho, hop, hr2⟩ := hb.keys e.path hp
  have := hok.uniq ho he hop
  subst this
  exact hr2 r hr) hb.has
 exact ⟨key h h' p, key h' h p⟩
theorem krd_one (w : World) (r : List UInt8) : Rd (w.alloc (.cells #[.string ⟨r.toArray⟩] 9)) 1 (.slice (some ⟨w.heap.size, 0, none⟩) 1 1) [r].length (svs [r]) :=
 (Sl.of_new w 0 (Nat.zero_le _) 9 1 1 [.string ⟨r.toArray⟩] rfl (by simp [maxLen])).rd
theorem kFound {r : List UInt8} (h : r ∈ [[97], [98], [109]]) : findE (kSt 15) r ≠ none := fun hn => by
 have h1 := List.all_eq_true.1 kFind r h
 rw [hn] at h1
 cases h1
theorem kSum_of {X : ByteArray} {sm : List UInt8} (h : (⟨kOne.toArray⟩ : ByteArray) = X) (hs : kSum = sm) : sumOf X.data.toList = ⟨sm.toArray⟩ := by
 subst h hs
 rw [kSum, Array.toArray_toList]
theorem kSum2_of {X : ByteArray} {sm : List UInt8} (h : (⟨kTwo.toArray⟩ : ByteArray) = X) (hs : kSum2 = sm) : sumOf X.data.toList = ⟨sm.toArray⟩ := by
 subst h hs
 rw [kSum2, Array.toArray_toList]
theorem ba_app (a b : List UInt8) : (⟨(a ++ b).toArray⟩ : ByteArray) = ⟨a.toArray⟩ ++ ⟨b.toArray⟩ := by
 apply ByteArray.ext
 rw [ByteArray.data_append]
 simp
def WordPost (w : World) (b : Nat) (may : List (List UInt8)) (act : Act1) (ed : Ending) (w' : World) : Prop := ∃ f, ed = .returned (.agg #[.int .i64 8, f]) ∧ JobAt w' b (.word may act) f ∧ Keeps Non w w'
def WordPost2 (w : World) (b : Nat) (may : List (List UInt8)) (act : Act1) (v : Value) (ed : Ending) (w' : World) : Prop := ∃ f, ed = .returned (.agg #[.int .i64 8, f]) ∧ JobAt w' b (.word may act) f ∧ Keeps Non w w' ∧
 ∃ bm bp bt : Nat, f = .func (.func 77) #[] #[.pointer (some ⟨bm, 0, none⟩), .pointer (some ⟨bp, 0, none⟩), .pointer (some ⟨bt, 0, none⟩)] ∧ Blk w' bm #[v] 26
set_option maxHeartbeats 800000 in
set_option maxRecDepth 100000 in
theorem word_any2 (b : Nat) (may : List (List UInt8)) (act : Act1) (v : Value) (w : World) (hv : Sl w 0 9 1 v may.length (svs may)) :
 Calls Tryz.prog 46 #[.pointer (some ⟨b, 0, none⟩), actV b act, v] w (WordPost2 w b may act v) := by
 obtain ⟨a0, c0, rfl, -, -⟩ := hv.shape
 have HV := Lib.hid hv
 clear hv
 have haf : actV b act = .nilFunc ∨ ∃ fn x y, actV b act = .func fn x y := by cases act <;> first | exact .inl rfl | exact .inr ⟨_, _, _, rfl⟩
 have HK : Hid (∀ af : Value, Keeps Non w (((w.alloc (.cells #[.pointer (some ⟨b, 0, none⟩)] 151)).alloc (.cells #[af] 111)).alloc (.cells #[.slice a0 may.length c0] 26))) := fun af => (((Keeps.refl _ _).alloc _).alloc _).alloc _
 generalize hA : actV b act = af at *
 have HA := Lib.hid hA
 clear hA
 rcases haf with rfl | ⟨fn, x, y, rfl⟩
 all_goals (
  go_enter Tryz.func46, Tryz.ntmps46
  go_wp2_with fail
  refine bodyPost_ret (v := .agg #[.int .i64 8, .func (.func 77) #[] #[.pointer (some ⟨w.heap.size + 1 + 1, 0, none⟩), .pointer (some ⟨w.heap.size, 0, none⟩), .pointer (some ⟨w.heap.size + 1, 0, none⟩)]]) (by simp [results, Tryz.results46, go_sem]) rfl ?_
  refine ⟨_, rfl, ⟨_, _, _, .slice a0 may.length c0, rfl, ?_, (((HV.out.alloc _).alloc _).alloc _).alloc _, (((Blk.new w _ _).alloc _).alloc _).alloc _, ?_⟩, (HK.out _).alloc _, _, _, _, rfl, ?_⟩
  ·have h1 := fun (o1 o2 o3 : Obj) => (Blk.new ((w.alloc o1).alloc o2) #[.slice a0 may.length c0] 26).alloc o3
   simp only [World.size_alloc] at h1
   exact h1 _ _ _
  ·rw [HA.out]
   have h1 := fun (o1 o2 o3 : Obj) (a : Value) => ((Blk.new (w.alloc o1) #[a] 111).alloc o2).alloc o3
   simp only [World.size_alloc] at h1
   exact h1 _ _ _ _
  ·have h1 := fun (o1 o2 o3 : Obj) => (Blk.new ((w.alloc o1).alloc o2) #[.slice a0 may.length c0] 26).alloc o3
   simp only [World.size_alloc] at h1
   exact h1 _ _ _)
theorem word_any (b : Nat) (may : List (List UInt8)) (act : Act1) (v : Value) (w : World) (hv : Sl w 0 9 1 v may.length (svs may)) :
 Calls Tryz.prog 46 #[.pointer (some ⟨b, 0, none⟩), actV b act, v] w (WordPost w b may act) :=
 (word_any2 b may act v w hv).mono fun _ _ ⟨f, h1, h2, h3, _⟩ => ⟨f, h1, h2, h3⟩
set_option maxHeartbeats 800000 in
set_option maxRecDepth 100000 in
theorem text_any (b most : Nat) (f : Value) (hf : f.oneCell' = true) (hff : ∃ fn x y, f = .func fn x y) (w : World) :
 Calls Tryz.prog 79 #[.pointer (some ⟨b, 0, none⟩), .int .i64 most, f] w fun ed w' => ed = .returned (.agg #[.int .i64 most, f]) ∧ Keeps Non w w' := by
 obtain ⟨fn, x, y, rfl⟩ := hff
 go_enter Tryz.func79, Tryz.ntmps79
 go_wp2_with fail
 refine bodyPost_ret (v := .agg #[.int .i64 most, .func fn x y]) (by simp [results, Tryz.results79, go_sem]) rfl ⟨rfl, (Keeps.refl _ _).alloc _⟩
theorem JobAt.keeps {w w' : World} {b : Nat} {j : Job} {f : Value} (h : JobAt w b j f) (k : Keeps Non w w') : JobAt w' b j f := h.kp (Kp.of_keeps (B := 0) (Ts := []) k) (by simp)
theorem JobAt.alloc {w : World} {b : Nat} {j : Job} {f : Value} (h : JobAt w b j f) (o : Obj) : JobAt (w.alloc o) b j f := h.keeps ((Keeps.refl _ _).alloc o)
theorem wantArg {w : World} (us : List (Job × Value)) (n sz : Nat) (c : Array Value) (hsz : sz = w.heap.size) (hc : c = (wantCells us).toArray) (hn : us.length = n) (h9 : n ≤ 100) : Sl (w.alloc (.cells c 113)) 0 113 2 (.slice (some ⟨sz, 0, none⟩) n n) us.length (wantCells us) := by
 subst hn hc hsz
 exact Sl.of_new w 0 (Nat.zero_le _) 113 2 us.length (wantCells us) (wantCells_length us) (by unfold maxLen; omega)
theorem plan_new {B b : Nat} {tail : PT} {ts : List (Job × Value)} {σ : PSt} {w : World} (h : PA B b tail ts σ w) (us : List (Job × Value)) (n sz : Nat) (c : Array Value) (hsz : sz = w.heap.size) (hc : c = (wantCells us).toArray) (hn : us.length = n) (h9 : n ≤ 100) (hj : ∀ t ∈ us, JobAt w b t.1 t.2) (hl : ts.length ≤ 1099511627000) :
 Calls Tryz.prog 45 #[.pointer (some ⟨b, 0, none⟩), .slice (some ⟨sz, 0, none⟩) n n] (w.alloc (.cells c 113)) fun ed w' => ed = .returned (.tuple #[]) ∧ PA B b tail (ts ++ us.reverse) σ w' ∧ Kp B [113, TB] w w' := by
 obtain ⟨vr, vt, vl, va, h⟩ := h
 have ha := wantArg (w := w) us n sz c hsz hc hn h9
 subst hn
 have hne : vt.ownBlock ≠ some sz := by
  intro e
  have := h.todo.own_lt e
  omega
 refine (plan_any (h.alloc _) us sz 0 us.length ha hne (fun t ht => (hj t ht).alloc _) (by omega)).mono ?_
 rintro ed w' ⟨h1, h2, h3⟩
 exact ⟨h1, h2, ((Kp.refl _ _ _).alloc _).trans h3⟩
def nodeWs (f1 f2 f3 : Value) : List (Job × Value) := [(.word [wOpen] .open', f1), (.word [wType] .none, f2), (.word [wFile, wLink, wDir] .kind, f3)]
def NodePost (w : World) (b : Nat) (ed : Ending) (w' : World) : Prop := ∃ (f1 f2 f3 : Value) (bl : Nat), ed = .returned (.slice (some ⟨bl, 0, none⟩) 3 3) ∧ Sl w' 0 113 2 (.slice (some ⟨bl, 0, none⟩) 3 3) 3 (wantCells (nodeWs f1 f2 f3)) ∧ w.heap.size ≤ bl ∧ (∀ t ∈ nodeWs f1 f2 f3, JobAt w' b t.1 t.2) ∧ Keeps Non w w'
set_option maxHeartbeats 800000 in
set_option maxRecDepth 100000 in
theorem node_any (b : Nat) (w : World) : Calls Tryz.prog 131 #[.pointer (some ⟨b, 0, none⟩)] w (NodePost w b) := by
 go_enter Tryz.func131, Tryz.ntmps131
 go_wp2_with fail
 refine (word_any b [wOpen] .open' _ _ (putArg w 1 _ [wOpen] _ rfl rfl rfl (by simp))).mono ?_
 rintro e w1 ⟨f1, rfl, hj1, hk1⟩
 have K1 : Hid (Keeps Non w w1) := ((Keeps.refl _ _).alloc _).trans hk1 (fun k hk => .inl hk)
 have J1 := Lib.hid hj1
 clear hj1 hk1
 go_wp2_with fail
 refine (word_any b [wType] .none _ _ (putArg w1 1 _ [wType] _ rfl rfl rfl (by simp))).mono ?_
 rintro e w2 ⟨f2, rfl, hj2, hk2⟩
 have hk12 : Keeps Non w1 w2 := ((Keeps.refl _ _).alloc _).trans hk2 (fun k hk => .inl hk)
 have K2 : Hid (Keeps Non w w2) := K1.out.trans hk12 (fun k hk => .inl hk)
 have J12 := Lib.hid (J1.out.keeps hk12)
 have J2 := Lib.hid hj2
 clear hj2 hk2 hk12
 go_wp2_with fail
 refine (word_any b [wFile, wLink, wDir] .kind _ _ (putArg w2 3 _ [wFile, wLink, wDir] _ rfl rfl rfl (by simp))).mono ?_
 rintro e w3 ⟨f3, rfl, hj3, hk3⟩
 have hk23 : Keeps Non w2 w3 := ((Keeps.refl _ _).alloc _).trans hk3 (fun k hk => .inl hk)
 have K3 : Hid (Keeps Non w w3) := K2.out.trans hk23 (fun k hk => .inl hk)
 have J13 := Lib.hid (J12.out.keeps hk23)
 have J23 := Lib.hid (J2.out.keeps hk23)
 have J3 := Lib.hid hj3
 clear hj3 hk3 hk23
 go_wp2_with fail
 go_ret
 refine ⟨f1, f2, f3, _, rfl, wantArg (nodeWs f1 f2 f3) 3 _ _ rfl rfl rfl (by omega), K3.out.size, ?_, K3.out.alloc _⟩
 intro t ht
 simp only [nodeWs, List.mem_cons, List.not_mem_nil, or_false] at ht
 rcases ht with rfl | rfl | rfl
 ·exact J13.out.alloc _
 ·exact J23.out.alloc _
 ·exact J3.out.alloc _
theorem infoNode : (Tryz.prog.info? 49).map (fun i => (i.zero, i.size, i.bytes)) = some (some (.agg #[.string ⟨#[]⟩, .int .i64 0, .string ⟨#[]⟩]), 3, 40) := by kernel_rfl
theorem add_step {B b : Nat} {tail : PT} {ts : List (Job × Value)} {σ : PSt} {w w1 : World} {vr vt vl va : Value} (H : PAt B b tail ts σ w vr vt vl va) (k : Int) (d : List UInt8) (C : Array Value) (ao : Option Addr) (cc n : Nat) (hn : n = σ.nodes.length + 1)
 (hs : Sl w1 B 49 3 (.slice ao n cc) n (nodeCells σ.nodes ++ [sv σ.path, .int .i64 k, sv d])) (hk : Kp B [49] (w.alloc (.cells C 49)) w1)
 (hx : ∀ (B' : Nat) (t : Value) (k : Nat) (ys : List Value), Sl (w.alloc (.cells C 49)) B' 49 3 t k ys → Ahead 3 vl t → Sl w1 B' 49 3 t k ys ∧ Ahead 3 (.slice ao n cc) t) :
 PAt B b tail ts (σ.add k d) (w1.setCell ⟨b, 5, none⟩ (.slice ao n cc)) vr vt (.slice ao n cc) va ∧ Kp B [49, TB] w (w1.setCell ⟨b, 5, none⟩ (.slice ao n cc)) := by
 subst hn
 have hk0 : Kp B [49] w w1 := ((Kp.refl _ _ _).alloc _).trans hk
 have b1 := H.blk.kp hk0 (.inr (by decide))
 have k2 : Kp B [TB] w1 (w1.setCell ⟨b, 5, none⟩ (.slice ao (σ.nodes.length + 1) cc)) := (Kp.refl _ _ _).set b1 (.inr ⟨H.le, by simp⟩) _ _
 have b2 := b1.set 5 (.slice ao (σ.nodes.length + 1) cc)
 rw [(pcells_set ..).2.2.2.2.2.1] at b2
 have sub : ∀ T ∈ ([49] : List TypeId), T ∈ paTs := by intro T hT; simp only [List.mem_singleton] at hT; subst hT; simp
 have subB : ∀ T ∈ ([TB] : List TypeId), T ∈ paTs := by intro T hT; simp only [List.mem_singleton] at hT; subst hT; simp
 refine ⟨⟨b2, H.le, (H.rest.kp hk0 (.inl (by decide))).kp k2 (.inl (by decide)), (H.todo.kp hk0 (.inl (by decide))).kp k2 (.inl (by decide)), ?_, (H.above.kp hk0 (.inl (by decide))).kp k2 (.inl (by decide)), fun t ht => ((H.jobs t ht).kp hk0 sub).kp k2 subB, fun t ht => ⟨(hx _ _ _ _ ((H.kept t ht).1.alloc _) (H.kept t ht).2).1.kp k2 (.inl (by decide)), (hx _ _ _ _ ((H.kept t ht).1.alloc _) (H.kept t ht).2).2⟩⟩, (hk0.mono (.inr ⟨Nat.le_refl _, by simp⟩)).trans (k2.mono (.inr ⟨Nat.le_refl _, by simp⟩))⟩
 rw [show (σ.add k d).nodes = σ.nodes ++ [⟨σ.path, k, d⟩] from rfl, List.length_append, nodeCells_append]
 exact hs.kp k2 (.inl (by decide))
set_option maxHeartbeats 800000 in
set_option maxRecDepth 100000 in
theorem add_any {B b : Nat} {tail : PT} {ts : List (Job × Value)} {σ : PSt} {w : World} (h : PA B b tail ts σ w) (k : Int) (s : ByteArray) (hl : σ.nodes.length ≤ 1099511627776) :
 Calls Tryz.prog 169 #[.pointer (some ⟨b, 0, none⟩), .int .i64 k, .string s] w fun ed w' => ed = .returned (.tuple #[]) ∧ PA B b tail ts (σ.add k s.data.toList) w' ∧ Kp B [49, TB] w w' := by
 obtain ⟨vr, vt, vl, va, h⟩ := h
 obtain ⟨i0, hi, hz0, hz1, hz2⟩ := info_parts infoNode
 have c5 : w.cell? ⟨b, 5, none⟩ = some vl := (h.blk.cell 5).trans (pcells_get ..).2.2.2.2.2.1
 have c7 : w.cell? ⟨b, 7, none⟩ = some (sv σ.path) := (h.blk.cell 7).trans (pcells_get ..).2.2.2.2.2.2.2
 unfold sv at c7
 have hsl := h.nodes
 have hblt := h.lt
 have hbw := h.le
 have H := Lib.hid h
 clear h
 go_enter Tryz.func169, Tryz.ntmps169
 go_upto_region 0 with (fail)
 go_region_law (refine step_append_own3 rfl _ _ 50 50 rfl 49 i0 _ 3 40 Tryz.underlying50 hi hz0 hz1 hz2 rfl B vl _ _ rfl _ rfl 1 [.string ⟨σ.path.toArray⟩, .int .i64 k, .string s] (by simp; omega) (by first | exact hsl.alloc _ | exact hsl) (by first | exact Src.ofSl Tryz.underlying50 (Sl.of_new w 0 (Nat.zero_le _) 49 3 1 [.string ⟨σ.path.toArray⟩, .int .i64 k, .string s] rfl (by simp [maxLen])) (by intro u hu; simp only [List.mem_cons, List.not_mem_nil, or_false] at hu; rcases hu with rfl | rfl | rfl <;> rfl)) (by unfold maxLen; omega) (by omega) ?_; intro ao cc w1 hs1 hk1 hkk1 hb1 hx1; have HK1 := Lib.hid (Kp.of_drew hk1); have HS1 := Lib.hid hs1; have HX1 : Hid (∀ (B' : Nat) (t : Value) (k' : Nat) (ys : List Value), Sl (w.alloc (.cells #[.string ⟨σ.path.toArray⟩, .int .i64 k, .string s] 49)) B' 49 3 t k' ys → Ahead 3 vl t → Sl w1 B' 49 3 t k' ys ∧ Ahead 3 (.slice ao (σ.nodes.length + 1) cc) t) := fun B' t k' ys ht ha => hx1 B' t k' ys (by first | exact ht | exact ht.drewN 1) ha; have B1 := Lib.hid ((H.out.blk.alloc (.cells #[.string ⟨σ.path.toArray⟩, .int .i64 k, .string s] 49)).kp HK1.out (.inr (by decide))); have c51 : w1.cell? ⟨b, 5, none⟩ = some vl := (B1.out.cell 5).trans (pcells_get ..).2.2.2.2.2.1; have f51 := B1.out.free 5; clear hs1 hk1 hkk1 hb1 hx1)
 all_goals (
  have hst := add_step H.out k s.data.toList _ ao cc (σ.nodes.length + 1) rfl (by have h1 := HS1.out; simpa [sv] using h1) HK1.out HX1.out
  have HST := Lib.hid hst
  clear hst
  go_wp2_with fail
  go_end0
  exact ⟨rfl, ⟨_, _, _, _, HST.out.1⟩, HST.out.2⟩)
theorem push_step {B b : Nat} {tail : PT} {ts : List (Job × Value)} {σ : PSt} {w w1 : World} {vr vt vl va : Value} (H : PAt B b tail ts σ w vr vt vl va) (C : Array Value) (ao : Option Addr) (cc n : Nat) (hn : n = σ.above.length + 1)
 (hs : Sl w1 B 160 2 (.slice ao n cc) n (opCells σ.above ++ [sv σ.path, sv []])) (hk : Kp B [160] (w.alloc (.cells C 160)) w1) :
 PAt B b tail ts { σ with above := σ.above ++ [(σ.path, [])] } (w1.setCell ⟨b, 6, none⟩ (.slice ao n cc)) vr vt vl (.slice ao n cc) ∧ Kp B [160, TB] w (w1.setCell ⟨b, 6, none⟩ (.slice ao n cc)) := by
 subst hn
 have hk0 : Kp B [160] w w1 := ((Kp.refl _ _ _).alloc _).trans hk
 have b1 := H.blk.kp hk0 (.inr (by decide))
 have k2 : Kp B [TB] w1 (w1.setCell ⟨b, 6, none⟩ (.slice ao (σ.above.length + 1) cc)) := (Kp.refl _ _ _).set b1 (.inr ⟨H.le, by simp⟩) _ _
 have b2 := b1.set 6 (.slice ao (σ.above.length + 1) cc)
 rw [(pcells_set ..).2.2.2.2.2.2.1] at b2
 have sub : ∀ T ∈ ([160] : List TypeId), T ∈ paTs := by intro T hT; simp only [List.mem_singleton] at hT; subst hT; simp
 have subB : ∀ T ∈ ([TB] : List TypeId), T ∈ paTs := by intro T hT; simp only [List.mem_singleton] at hT; subst hT; simp
 refine ⟨⟨b2, H.le, (H.rest.kp hk0 (.inl (by decide))).kp k2 (.inl (by decide)), (H.todo.kp hk0 (.inl (by decide))).kp k2 (.inl (by decide)), (H.nodes.kp hk0 (.inl (by decide))).kp k2 (.inl (by decide)), ?_, fun t ht => ((H.jobs t ht).kp hk0 sub).kp k2 subB, fun t ht => ⟨((H.kept t ht).1.kp hk0 (.inl (by decide))).kp k2 (.inl (by decide)), (H.kept t ht).2⟩⟩, (hk0.mono (.inr ⟨Nat.le_refl _, by simp⟩)).trans (k2.mono (.inr ⟨Nat.le_refl _, by simp⟩))⟩
 show Sl _ B _ 2 _ (σ.above ++ [(σ.path, [])]).length (opCells (σ.above ++ [(σ.path, [])]))
 rw [List.length_append, opCells_append]
 exact hs.kp k2 (.inl (by decide))
set_option maxHeartbeats 800000 in
set_option maxRecDepth 100000 in
theorem open_any {B b : Nat} {tail : PT} {ts : List (Job × Value)} {σ : PSt} {w : World} (h : PA B b tail ts σ w) (s : ByteArray) (p : Int) (hl : σ.nodes.length ≤ 1099511627776) (ha : σ.above.length ≤ 1099511627776) :
 Calls Tryz.prog 156 #[.pointer (some ⟨b, 0, none⟩), .string s, .int .i64 p] w fun ed w' => ed = .returned (.tuple #[]) ∧ PA B b tail ts (doAct .open' s.data.toList p σ).2 w' ∧ Kp B [TB] w w' := by
 have HP := Lib.hid h
 obtain ⟨vr, vt, vl, va, h⟩ := h
 have c5 : w.cell? ⟨b, 5, none⟩ = some vl := (h.blk.cell 5).trans (pcells_get ..).2.2.2.2.2.1
 have c6 : w.cell? ⟨b, 6, none⟩ = some va := (h.blk.cell 6).trans (pcells_get ..).2.2.2.2.2.2.1
 obtain ⟨a1, cp1, rfl, -, -⟩ := h.nodes.shape
 obtain ⟨a2, cp2, rfl, -, -⟩ := h.above.shape
 clear h
 by_cases h5 : 5 < σ.above.length
 ·have hd : decide ((5:Int) < (σ.above.length : Int)) = true := by simp; omega
  have HS : Hid ((doAct .open' s.data.toList p σ).2 = σ.fail 8 p) := by show _ = _; simp only [doAct, if_pos h5]
  clear h5
  go_enter Tryz.func156, Tryz.ntmps156
  go_wp2_with fail
  refine (fail_any HP.out 8 p).mono ?_
  rintro e w' ⟨rfl, h1, h2⟩
  go_wp2_with fail
  go_end0
  rw [HS.out]
  exact ⟨rfl, h1, h2⟩
 ·have hd : decide ((5:Int) < (σ.above.length : Int)) = false := by simp; omega
  by_cases h30 : σ.nodes.length = 30
  ·have hd2 : ((σ.nodes.length : Int) == 30) = true := by simp; omega
   have HS : Hid ((doAct .open' s.data.toList p σ).2 = σ.fail 9 p) := by show _ = _; simp only [doAct, if_neg h5, if_pos h30]
   clear h5 h30
   go_enter Tryz.func156, Tryz.ntmps156
   go_wp2_with fail
   refine (fail_any HP.out 9 p).mono ?_
   rintro e w' ⟨rfl, h1, h2⟩
   go_wp2_with fail
   go_end0
   rw [HS.out]
   exact ⟨rfl, h1, h2⟩
  ·have hd2 : ((σ.nodes.length : Int) == 30) = false := by rw [beq_eq_false_iff_ne]; omega
   have HS : Hid ((doAct .open' s.data.toList p σ).2 = σ) := by show _ = _; simp only [doAct, if_neg h5, if_neg h30]
   clear h5 h30
   go_enter Tryz.func156, Tryz.ntmps156
   go_wp2_with fail
   go_end0
   rw [HS.out]
   exact ⟨rfl, HP.out, Kp.refl _ _ _⟩
set_option maxHeartbeats 800000 in
set_option maxRecDepth 100000 in
theorem leads_any {B b : Nat} {tail : PT} {ts : List (Job × Value)} {σ : PSt} {w : World} (h : PA B b tail ts σ w) (s : ByteArray) (hs : s.size ≤ maxLen) (p : Int) (hl : σ.nodes.length ≤ 1099511627776) :
 Calls Tryz.prog 168 #[.pointer (some ⟨b, 0, none⟩), .string s, .int .i64 p] w fun ed w' => ed = .returned (.tuple #[]) ∧ PA B b tail ts (doJob .leads s.data.toList p σ).2 w' ∧ Kp B [49, TB] w w' := by
 have HP := Lib.hid h
 clear h
 cases hd : dataB 3 s.data.toList with
 | true =>
   have HS : Hid ((doJob .leads s.data.toList p σ).2 = σ.add 3 s.data.toList) := by show _ = _; simp only [doJob, hd, if_true]
   have HD := Lib.hid hd
   clear hd
   go_enter Tryz.func168, Tryz.ntmps168
   go_wp2_with fail
   refine (data_any 3 s _ hs).mono ?_
   rintro e w1 ⟨rfl, rfl⟩
   rw [HD.out]
   go_wp2_with fail
   refine (add_any HP.out 3 s hl).mono ?_
   rintro e w2 ⟨rfl, h1, h2⟩
   go_wp2_with fail
   go_end0
   rw [HS.out]
   exact ⟨rfl, h1, h2⟩
 | false =>
   have HS : Hid ((doJob .leads s.data.toList p σ).2 = (σ.fail 6 p).add 3 s.data.toList) := by show _ = _; simp only [doJob, hd, Bool.false_eq_true, if_false]
   have HD := Lib.hid hd
   clear hd
   have hl2 : (σ.fail 6 p).nodes.length ≤ 1099511627776 := by unfold PSt.fail; split <;> exact hl
   go_enter Tryz.func168, Tryz.ntmps168
   go_wp2_with fail
   refine (data_any 3 s _ hs).mono ?_
   rintro e w1 ⟨rfl, rfl⟩
   rw [HD.out]
   go_wp2_with fail
   refine (fail_any HP.out 6 p).mono ?_
   rintro e w1 ⟨rfl, h1, h2⟩
   have H1 := Lib.hid h1
   have H2 := Lib.hid h2
   clear h1 h2
   go_wp2_with fail
   refine (add_any H1.out 3 s hl2).mono ?_
   rintro e w2 ⟨rfl, h1, h2⟩
   go_wp2_with fail
   go_end0
   rw [HS.out]
   exact ⟨rfl, h1, (H2.out.mono (.inr ⟨Nat.le_refl _, by simp⟩)).trans h2⟩
def atB (l : List (List UInt8)) (s : List UInt8) : Nat → Int
 | 0 => -1
 | k + 1 => if l[l.length - (k + 1)]? = some s then ((l.length - (k + 1) : Nat) : Int) else atB l s k
theorem atB_mem (l : List (List UInt8)) (s : List UInt8) : ∀ k, k ≤ l.length → (0 ≤ atB l s k ↔ s ∈ l.drop (l.length - k))
 | 0, _ => by simp [atB]
 | k + 1, h => by
   have hl : l.length - (k + 1) < l.length := by omega
   have e : l.drop (l.length - (k + 1)) = l[l.length - (k + 1)] :: l.drop (l.length - k) := by
    rw [List.drop_eq_getElem_cons hl]; congr 2; omega
   unfold atB
   rw [e, List.mem_cons, List.getElem?_eq_getElem hl]
   split
   ·rename_i h1
    simp only [Option.some.injEq] at h1
    exact ⟨fun _ => .inl h1.symm, fun _ => by omega⟩
   ·rename_i h1
    simp only [Option.some.injEq] at h1
    rw [atB_mem l s k (by omega)]
    exact ⟨fun h => .inr h, fun h => h.resolve_left (fun e => h1 e.symm)⟩
theorem svs_at (l : List (List UInt8)) (k : Nat) (h : k < l.length) : (svs l)[k]? = some (sv l[k]) := by simp [svs, List.getElem?_eq_getElem h]
set_option maxHeartbeats 800000 in
set_option maxRecDepth 100000 in
theorem index_any (l : List (List UInt8)) (v : Value) (s : ByteArray) (w : World) (hv : Sl w 0 9 1 v l.length (svs l)) :
 Calls Tryz.prog 74 #[v, .string s] w fun e w' => e = .returned (.int .i64 (atB l s.data.toList l.length)) ∧ w = w' := by
 obtain ⟨a0, c0, rfl, hc1, hc2⟩ := hv.shape
 unfold maxLen at hc2
 have HV := Lib.hid hv
 clear hv
 go_enter Tryz.func74, Tryz.ntmps74
 go_wp2_with fail
 go_loopg [8] l.length (fun gk iv wr => ∃ k : Nat, gk = l.length - k ∧ k ≤ l.length ∧ iv = .int .i64 k ∧ w = wr ∧ Hid (atB l s.data.toList l.length = atB l s.data.toList (l.length - k)))
 case atStart => exact ⟨0, rfl, Nat.zero_le _, rfl, rfl, rfl⟩
 case round =>
  obtain ⟨k, rfl, hk, rfl, rfl, HA⟩ := hrel
  by_cases hlt : k < l.length
  ·obtain ⟨b', o', c', hsh, -, -, -, hltb, hcc, -⟩ := HV.out.pos (by omega)
   cases hsh
   have d0 : w.cell? ⟨b', o' + k, none⟩ = some (sv l[k]) := (hcc k (by omega)).trans (svs_at l k hlt)
   unfold sv at d0
   have hatk : atB l s.data.toList (l.length - k) = if l[k] = s.data.toList then (k : Int) else atB l s.data.toList (l.length - (k + 1)) := by
    rw [show l.length - k = (l.length - (k + 1)) + 1 by omega, atB, show l.length - (l.length - (k + 1) + 1) = k by omega, List.getElem?_eq_getElem hlt]
    simp
   have HATK := Lib.hid hatk
   clear hcc hatk
   generalize l[k] = x at *
   by_cases he : x = s.data.toList
   ·have hb : (s.toList == x) = true := by rw [ByteArray.toList_eq, he]; exact beq_self_eq_true _
    have HE := Lib.hid he
    clear he
    go_wp2_with fail
    go_ret
    refine ⟨?_, rfl⟩
    rw [HA.out, HATK.out, if_pos HE.out]; rfl
   ·have hb : (s.toList == x) = false := by
     rw [beq_eq_false_iff_ne, ByteArray.toList_eq]; exact fun e => he e.symm
    have HE : Hid (¬ x = s.data.toList) := he
    clear he
    go_wp2_with fail
    go_roundg (l.length - (k + 1))
    case measure => omega
    case rel => exact ⟨k + 1, rfl, by omega, by go_num, rfl, by show _ = _; rw [HA.out, HATK.out, if_neg HE.out]⟩
  ·have hk2 : k = l.length := by omega
   subst hk2
   go_wp2_with fail
   go_ret
   refine ⟨?_, rfl⟩
   rw [HA.out, Nat.sub_self]; rfl
set_option maxHeartbeats 800000 in
set_option maxRecDepth 100000 in
theorem contains_any (l : List (List UInt8)) (v : Value) (s : ByteArray) (w : World) (hv : Sl w 0 9 1 v l.length (svs l)) :
 Calls Tryz.prog 39 #[v, .string s] w fun e w' => e = .returned (.bool (decide (s.data.toList ∈ l))) ∧ w = w' := by
 have HV := Lib.hid hv
 clear hv
 have hm := atB_mem l s.data.toList l.length (Nat.le_refl _)
 rw [Nat.sub_self, List.drop_zero] at hm
 have hd : decide (0 ≤ atB l s.data.toList l.length) = decide (s.data.toList ∈ l) := by
  rw [decide_eq_decide]; exact hm
 have HD := Lib.hid hd
 clear hm hd
 go_enter Tryz.func39, Tryz.ntmps39
 go_wp2_with fail
 refine (index_any l v s _ HV.out).mono ?_
 rintro e w1 ⟨rfl, rfl⟩
 go_wp2_with fail
 go_ret
 refine ⟨?_, rfl⟩
 rw [← HD.out]; rfl
end Go.Proofs.YtdkogijdfgfpeaaGreatDoor
