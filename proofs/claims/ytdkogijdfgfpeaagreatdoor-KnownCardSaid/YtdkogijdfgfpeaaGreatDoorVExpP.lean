/- Plain: the bytes of what some paths lead to, and how many they are. -/
import Derived.Test.YtdkogijdfgfpeaaGreatDoorVShapeW
import Derived.Test.YtdkogijdfgfpeaaGreatDoorVRefN
import Derived.Test.YtdkogijdfgfpeaaGreatDoorVClosP
import Derived.Test.YtdkogijdfgfpeaaGreatDoorVMap
import Derived.Test.YtdkogijdfgfpeaaGreatDoorVPackw
import Derived.Test.YtdkogijdfgfpeaaGreatDoorVPack
set_option linter.unusedVariables false
namespace Go.Proofs.YtdkogijdfgfpeaaGreatDoor
open Go Go.RowKit
def entsOf (L : Ents) (K : List (List UInt8)) : Ents := K.filterMap (findE L)
theorem entsOf_cons {L : Ents} {K : List (List UInt8)} {p : List UInt8} {e : Ent} (h : findE L p = some e) : entsOf L (p :: K) = e :: entsOf L K := by simp [entsOf, h]
theorem entsOf_drop {L : Ents} {K : List (List UInt8)} {k : Nat} {p : List UInt8} {e : Ent} (hk : K[k]? = some p) (h : findE L p = some e) : entsOf L (K.drop k) = e :: entsOf L (K.drop (k + 1)) := by
 obtain ⟨hlt, hg⟩ := List.getElem?_eq_some_iff.1 hk
 rw [List.drop_eq_getElem_cons hlt, hg, entsOf_cons h]
def expAt (L : Ents) (K : List (List UInt8)) (k : Nat) : List UInt8 := (entsOf L (K.drop k)).flatMap expEnt ++ putL wEnd
theorem expAt_step {L : Ents} {K : List (List UInt8)} {k : Nat} {p : List UInt8} {e : Ent} (hk : K[k]? = some p) (h : findE L p = some e) : expAt L K k = expEnt e ++ expAt L K (k + 1) := by
 unfold expAt
 rw [entsOf_drop hk h]
 simp
theorem expAt_end {L : Ents} {K : List (List UInt8)} : expAt L K K.length = putL wEnd := by
 unfold expAt
 rw [List.drop_length]
 rfl
theorem expL_start (L : Ents) (K : List (List UInt8)) : expL (entsOf L K) = putL wExport ++ expAt L K 0 := rfl
def refsAt (e : Ent) (j : Nat) : List UInt8 := refsL (e.refs.drop j) ++ (putL wSum ++ putL (sumOf (packP e.tree)).data.toList)
theorem refsAt_step {e : Ent} {j : Nat} {r : List UInt8} (h : e.refs[j]? = some r) : refsAt e j = putAll [wRef, r] ++ refsAt e (j + 1) := by
 obtain ⟨hlt, hg⟩ := List.getElem?_eq_some_iff.1 h
 unfold refsAt
 rw [List.drop_eq_getElem_cons hlt, hg]
 simp [refsL, putAll]
theorem refsAt_end {e : Ent} : refsAt e e.refs.length = putAll [wSum, (sumOf (packP e.tree)).data.toList] := by
 unfold refsAt
 rw [List.drop_length]
 simp [refsL, putAll]
theorem expEnt_eq (e : Ent) : expEnt e = (putAll [wPath, e.path] ++ packP e.tree ++ putAll [wRefs]) ++ refsAt e 0 := by
 simp [expEnt, refsAt, putAll]
theorem putL_le (s : List UInt8) : (putL s).length ≤ s.length + 15 := by
 rw [putL_length]
 have := padN_lt s.length
 omega
theorem StoreOk.pathLen {L : Ents} (h : StoreOk L) {p : List UInt8} (hp : (findE L p).isSome = true) : p.length ≤ 12 := by
 obtain ⟨e, he, rfl⟩ := findE_isSome.1 hp
 have h1 := (h.good e he).1
 unfold pathB at h1
 simp only [Bool.and_eq_true, decide_eq_true_eq] at h1
 exact h1.2
theorem StoreOk.refsLen {L : Ents} (h : StoreOk L) {e : Ent} (he : e ∈ L) : e.refs.length ≤ 10 ∧ ∀ r ∈ e.refs, r.length ≤ 12 := by
 refine ⟨?_, fun r hr => h.pathLen (h.has e he r hr)⟩
 have h1 := nodup_len e.refs (L.map Ent.path) (h.nodup he) fun r hr => by
  obtain ⟨o, ho, rfl⟩ := findE_isSome.1 (h.has e he r hr)
  exact List.mem_map_of_mem ho
 have h2 := h.ten
 rw [List.length_map] at h1
 omega
theorem refsL_len : ∀ l : List (List UInt8), (∀ r ∈ l, r.length ≤ 12) → (refsL l).length ≤ 45 * l.length
 | [], _ => by simp [refsL]
 | r :: l, h => by
   have h1 := refsL_len l fun x hx => h x (List.mem_cons_of_mem _ hx)
   have h2 := h r (List.mem_cons_self ..)
   have h3 := putL_le wRef
   have h4 := putL_le r
   have e : refsL (r :: l) = putL wRef ++ putL r ++ refsL l := by simp [refsL]
   rw [e, List.length_append, List.length_append, List.length_cons]
   have h5 : wRef.length = 3 := rfl
   omega
theorem sumOf_len (l : List UInt8) : (sumOf l).data.toList.length = 8 := by simp [sumOf, sumB, sumL]
theorem expEnt_len {e : Ent} (h1 : e.path.length ≤ 12) (h2 : wrongL e.tree = -1) (h3 : e.refs.length ≤ 10) (h4 : ∀ r ∈ e.refs, r.length ≤ 12) : (expEnt e).length ≤ 31000 := by
 have a1 := putL_le wPath
 have a2 := putL_le e.path
 have a3 := (wrong_small h2).2.2
 have a4 := putL_le wRefs
 have a5 := refsL_len e.refs h4
 have a6 := putL_le wSum
 have a7 := putL_le (sumOf (packP e.tree)).data.toList
 rw [sumOf_len] at a7
 have b1 : wPath.length = 4 := rfl
 have b2 : wRefs.length = 4 := rfl
 have b3 : wSum.length = 3 := rfl
 unfold expEnt
 simp only [List.length_append]
 omega
theorem ents_len : ∀ es : Ents, (∀ e ∈ es, (expEnt e).length ≤ 31000) → (es.flatMap expEnt).length ≤ 31000 * es.length
 | [], _ => by simp
 | e :: r, h => by
   have h1 := ents_len r fun x hx => h x (List.mem_cons_of_mem _ hx)
   have h2 := h e (List.mem_cons_self ..)
   rw [List.flatMap_cons, List.length_append, List.length_cons]
   omega
theorem entsOf_mem {L : Ents} {K : List (List UInt8)} {e : Ent} (h : e ∈ entsOf L K) : e ∈ L ∧ e.path ∈ K := by
 obtain ⟨p, hp, he⟩ := List.mem_filterMap.1 h
 obtain ⟨h1, rfl⟩ := findE_some he
 exact ⟨h1, hp⟩
theorem entsOf_len (L : Ents) (K : List (List UInt8)) : (entsOf L K).length ≤ K.length := List.length_filterMap_le _ _
theorem StoreOk.entLen {L : Ents} (h : StoreOk L) {e : Ent} (he : e ∈ L) : (expEnt e).length ≤ 31000 := by
 obtain ⟨h3, h4⟩ := h.refsLen he
 exact expEnt_len (h.pathLen (findE_isSome.2 ⟨e, he, rfl⟩)) (h.good e he).2.1 h3 h4
theorem expL_len {es : Ents} (h : ∀ e ∈ es, (expEnt e).length ≤ 31000) (h10 : es.length ≤ 10) : (expL es).length ≤ 320000 := by
 have h1 := ents_len es h
 have a1 := putL_le wExport
 have a2 := putL_le wEnd
 have b1 : wExport.length = 8 := rfl
 have b2 : wEnd.length = 3 := rfl
 unfold expL
 simp only [List.length_append]
 omega
theorem exp_len {L : Ents} {K : List (List UInt8)} (h : StoreOk L) (hK : K.length ≤ 10) : (expL (entsOf L K)).length ≤ 320000 :=
 expL_len (fun e he => h.entLen (entsOf_mem he).1) (Nat.le_trans (entsOf_len L K) hK)
theorem Sl.non {w w' : World} {B : Nat} {E : TypeId} {size : Nat} {v : Value} {n : Nat} {xs : List Value} (h : Sl w B E size v n xs) (k : Keeps Non w w') : Sl w' B E size v n xs := h.keep fun _ _ _ _ hb => hb.keeps k fun h => h
theorem Keeps.un {S : Nat → Prop} {a w : World} (h : Keeps S a.drew w) : Keeps S a w := ⟨h.os, h.tape, h.output, h.size, h.block⟩
theorem Keeps.tn {a b c : World} (h : Keeps Non a b) (k : Keeps Non b c) : Keeps Non a c := h.trans k fun _ h => h.elim
abbrev buTs : List TypeId := [93, 5]
structure BuS (W : World) (bb : Nat) (T rest : List UInt8) (w : World) : Prop where
 bu : ∃ out, BuilderAt w W.heap.size bb out ∧ out ++ rest = T
 ft : T.length ≤ 70368744177664
 kp : Kp W.heap.size buTs W w
section
variable {W w w' : World} {bb : Nat} {T rest : List UInt8}
theorem BuS.new (W : World) (T : List UInt8) (h : T.length ≤ 70368744177664) : BuS W W.heap.size T T (W.alloc (.cells #[.pointer none, .slice none 0 0] 93)) :=
 ⟨⟨[], BuilderAt.new W, rfl⟩, h, (Kp.refl _ _ _).alloc _⟩
theorem BuS.non (h : BuS W bb T rest w) : Keeps Non W w := h.kp.keeps (Nat.le_refl _)
theorem BuS.keeps (h : BuS W bb T rest w) (hk : Keeps Non w w') : BuS W bb T rest w' := by
 have k : Kp W.heap.size [] w w' := Kp.of_keeps hk
 obtain ⟨out, hb, ho⟩ := h.bu
 exact ⟨⟨out, hb.kp k (.inr (by simp)), ho⟩, h.ft, h.kp.trans (Kp.of_keeps hk)⟩
theorem BuS.alloc (h : BuS W bb T rest w) (o : Obj) : BuS W bb T rest (w.alloc o) := h.keeps ((Keeps.refl _ _).alloc o)
theorem BuS.drew (h : BuS W bb T rest w) : BuS W bb T rest w.drew := h.keeps (Keeps.refl _ _).drew
theorem BuS.drewN (h : BuS W bb T rest w) (n : Nat) : BuS W bb T rest (w.drewN n) := h.keeps ((Keeps.refl _ _).drewN n)
theorem bs_put (h : BuS W bb T rest w) (l : List (List UInt8)) (n sz : Nat) (c : Array Value) (hsz : sz = w.heap.size) (hc : c = (svs l).toArray) (hn : l.length = n) (h0 : 0 < n) (h9 : n ≤ 100) (hr : roomOf l ≤ 70368744177664) :
 Calls Tryz.prog 41 #[.slice (some ⟨sz, 0, none⟩) n n] (w.alloc (.cells c 9)) fun e w' => e = .returned (.string ⟨(putAll l).toArray⟩) ∧ BuS W bb T rest w' := by
 subst hsz
 refine (put_any _ l _ (putArg w n _ l c rfl hc hn (by omega)) (by omega) hr).mono ?_
 rintro e w1 ⟨rfl, hk⟩
 exact ⟨rfl, (h.alloc _).keeps hk⟩
theorem bs_write (x : List UInt8) (h : BuS W bb T (x ++ rest) w) :
 Calls Tryz.prog 40 #[.pointer (some ⟨bb, 0, none⟩), .string ⟨x.toArray⟩] w fun e w' => e = .returned (.tuple #[.int .i64 x.length, .nilIface]) ∧ BuS W bb T rest w' := by
 obtain ⟨⟨out, hb, ho⟩, hf, hk⟩ := h
 have hl : out.length + (x.length + rest.length) = T.length := by rw [← ho]; simp
 refine (writeString_any W.heap.size bb out ⟨x.toArray⟩ w hb (by show _ + x.toArray.size ≤ _; simp; omega)).mono ?_
 rintro e w1 ⟨rfl, hb1, hk1⟩
 exact ⟨rfl, ⟨_, hb1, by rw [← ho, List.append_assoc]⟩, hf, hk.trans hk1⟩
theorem bs_string (h : BuS W bb T [] w) (hT : T ≠ []) :
 Calls Tryz.prog 43 #[.pointer (some ⟨bb, 0, none⟩)] w fun e w' => e = .returned (.string ⟨T.toArray⟩) ∧ Keeps Non W w' := by
 obtain ⟨⟨out, hb, ho⟩, hf, hk⟩ := h
 rw [List.append_nil] at ho
 subst ho
 refine (bstring_any _ _ _ _ hb hT).mono ?_
 rintro e w1 ⟨rfl, hk1⟩
 have hb0 := hk.below (Nat.le_refl _)
 refine ⟨rfl, ?_⟩
 refine Keeps.of_below (B := W.heap.size) ⟨hk1.os.trans hb0.os, hk1.tape.trans hb0.tape, hk1.output.trans hb0.output, Nat.le_trans hb0.size hk1.size, fun k hk => (hk1.block k hk).trans (hb0.block k hk)⟩ fun k hk _ => hk
end
theorem rising_iff : ∀ (l : List (List UInt8)), risingB l = true ↔ ∀ j (h : j + 1 < l.length), Op.bytesLess (l[j]'(by omega)) l[j + 1] = true
 | [] => by simp [risingB]
 | [a] => by simp [risingB]
 | a :: b :: r => by
   rw [risingB, Bool.and_eq_true, rising_iff (b :: r)]
   constructor
   ·rintro ⟨h1, h2⟩ j hj
    cases j with
    | zero => exact h1
    | succ j => exact h2 j (by simpa using hj)
   ·intro h
    exact ⟨h 0 (by simp), fun j hj => h (j + 1) (by simpa using hj)⟩
def InsPost (w : World) (F : Nat → Prop) (s : Nat) (R : Int × Ents) (ed : Ending) (w' : World) : Prop :=
 ed = .returned (.int .i64 R.1) ∧ (∃ F', StoreAt w' F' s R.2 ∧ ∀ k, F' k → F k ∨ (w.heap.size ≤ k ∧ k < w'.heap.size)) ∧ Keeps F w w'
theorem InsPost.same {w w' : World} {F : Nat → Prop} {s : Nat} {L : Ents} {z : Int} (h : StoreAt w F s L) (k : Keeps Non w w') : InsPost w F s (z, L) (.returned (.int .i64 z)) w' :=
 ⟨rfl, ⟨F, h.non k, fun _ h => .inl h⟩, k.mono fun _ _ h => h.elim⟩
theorem wrong_short {l : List Node} (h : wrongL l = -1) : l.length ≤ 30 := by
 unfold wrongL at h
 split at h
 ·cases h
 ·have := wrong_len l 0 [] h (by omega)
  omega
theorem insE_a {L : Ents} {name : List UInt8} {l : List Node} {refs : List (List UInt8)} (h : pathB name = false) : insE L name l refs = (11, L) := by unfold insE; rw [if_pos h]
theorem insE_b {L : Ents} {name : List UInt8} {l : List Node} {refs : List (List UInt8)} (h : pathB name = true) (h2 : 0 ≤ wrongL l) : insE L name l refs = (1, L) := by unfold insE; rw [if_neg (by simp [h]), if_pos h2]
theorem insE_c {L : Ents} {name : List UInt8} {l : List Node} {refs : List (List UInt8)} (h : pathB name = true) (h2 : wrongL l = -1) (h3 : risingB refs = false) : insE L name l refs = (7, L) := by
 unfold insE; rw [if_neg (by simp [h]), if_neg (by omega), if_pos h3]
theorem insE_d {L : Ents} {name : List UInt8} {l : List Node} {refs : List (List UInt8)} (h : pathB name = true) (h2 : wrongL l = -1) (h3 : risingB refs = true) {r : List UInt8} (hr : r ∈ refs) (h4 : r ≠ name) (h5 : findE L r = none) : insE L name l refs = (13, L) := by
 unfold insE; rw [if_neg (by simp [h]), if_neg (by omega), if_neg (by simp [h3]), if_pos]
 rw [List.any_eq_true]
 exact ⟨r, hr, by simp [h4, h5]⟩
structure InsOk (L : Ents) (name : List UInt8) (l : List Node) (refs : List (List UInt8)) : Prop where
 path : pathB name = true
 wrong : wrongL l = -1
 rise : risingB refs = true
 has : ∀ r ∈ refs, r = name ∨ (findE L r).isSome = true
theorem insE_e {L : Ents} {name : List UInt8} {l : List Node} {refs : List (List UInt8)} (h : InsOk L name l refs) : insE L name l refs = match findE L name with
  | some e => if sameE e ⟨name, l, refs⟩ then (0, L) else (12, L)
  | none => if L.length = 10 then (14, L) else (0, putE L ⟨name, l, refs⟩) := by
 have h4 : ¬ (refs.any fun r => r != name && (findE L r).isNone) = true := by
  rw [List.any_eq_true]
  rintro ⟨r, hr, h2⟩
  rcases h.has r hr with h3 | h3
  ·simp [h3] at h2
  ·cases hf : findE L r with
   | none => rw [hf] at h3; cases h3
   | some e => simp [hf] at h2
 unfold insE
 rw [if_neg (by simp [h.path]), if_neg (by have := h.wrong; omega), if_neg (by simp [h.rise]), if_neg h4]
 cases findE L name <;> rfl
theorem MapAt.nodup {w : World} {b : Nat} {m : MapL} (h : MapAt w b m) : (m.map Prod.fst).Nodup := by
 obtain ⟨es, c, -, hm⟩ := h
 exact hm.keys
theorem MapAt.notcells {w : World} {b : Nat} {m : MapL} (h : MapAt w b m) {k : Nat} {c : Array Value} {T : TypeId} {fr : Nat × Nat} (hk : w.heap[k]? = some (.cells c T fr)) : k ≠ b := by
 obtain ⟨es, cl, hb, hm⟩ := h
 intro e
 rw [e, hb] at hk
 cases hk
theorem StoreAt.put {F : Nat → Prop} {w W w9 : World} {s mb p : Nat} {L : Ents} {m : MapL} {e : Ent} (hs : StoreAt w F s L) (hT : tabTop ≤ w.heap.size) (hkW : Keeps Non w W)
 (hM : F mb ∧ Blk W s #[.map (some mb)] TS ∧ MapAt W mb m ∧ m.length = L.length ∧ (∀ x ∈ m, ∃ e ∈ L, e.path = x.1) ∧ ∀ e ∈ L, ∃ p, getM m e.path = some (pv p) ∧ EntAt W F p e)
 (hE : EntAt W (fun k => w.heap.size ≤ k ∧ k < p + 1) p e) (hsz : W.heap.size = p + 1) (hfn : findE L e.path = none) (hm9 : MapAt w9 mb (putM m e.path (pv p))) (hk9 : Keeps (One mb) W w9) (hs9 : w9.heap.size = W.heap.size)
 (hok : StoreOk (putE L e)) (hfit : EntFit e) : StoreAt w9 (fun k => F k ∨ (w.heap.size ≤ k ∧ k < w9.heap.size)) s (putE L e) := by
 obtain ⟨h1, h2, h3, h4, h5, h6⟩ := hM
 have hgn : getM m e.path = none := getM_none.2 fun x hx e2 => by
  obtain ⟨e', he', hex⟩ := h5 x hx
  exact findE_none.1 hfn e' he' (hex.trans e2)
 have hp : putM m e.path (pv p) = m ++ [(e.path, pv p)] := by rw [putM, hgn]; rfl
 rw [hp] at hm9
 have hnd := hm9.nodup
 have hne : ∀ b c T fr, W.heap[b]? = some (.cells c T fr) → ¬ One mb b := fun b c T fr hc e2 => h3.notcells hc e2
 refine ⟨fun k hk => ?_, fun k hk => ?_, .inl hs.own, hok, fun x hx => ?_, mb, m ++ [(e.path, pv p)], .inl h1, h2.keeps hk9 (hne s _ _ _ h2), hm9, ?_, fun x hx => ?_, fun x hx => ?_⟩
 ·rcases hk with hk | hk
  ·exact hs.top k hk
  ·omega
 ·rcases hk with hk | hk
  ·exact Nat.lt_of_lt_of_le (hs.lt k hk) (Nat.le_trans hkW.size (Nat.le_of_eq hs9.symm))
  ·exact hk.2
 ·rcases putE_mem.1 hx with rfl | hx
  ·exact hfit
  ·exact hs.fit x hx
 ·rw [putE_length, List.length_append, h4]; rfl
 ·rcases List.mem_append.1 hx with hx | hx
  ·obtain ⟨e', he', hex⟩ := h5 x hx
   exact ⟨e', putE_mem.2 (.inr he'), hex⟩
  ·obtain rfl := List.mem_singleton.1 hx
   exact ⟨e, putE_mem.2 (.inl rfl), rfl⟩
 ·rcases putE_mem.1 hx with rfl | hx
  ·exact ⟨p, (getM_mem hnd).2 (List.mem_append.2 (.inr (List.mem_singleton.2 rfl))), (hE.keeps hk9 fun b c T fr _ hc => hne b c T fr hc).wide fun k hk => .inr ⟨hk.1, by omega⟩⟩
  ·obtain ⟨q, hq, hqe⟩ := h6 x hx
   exact ⟨q, (getM_mem hnd).2 (List.mem_append.2 (.inl ((getM_mem h3.nodup).1 hq))), (hqe.keeps hk9 fun b c T fr _ hc => hne b c T fr hc).wide fun k hk => .inl hk⟩
set_option maxHeartbeats 3200000 in
set_option maxRecDepth 100000 in
theorem insert_any {F : Nat → Prop} {s : Nat} {L : Ents} (w : World) (h : StoreAt w F s L) (hT : Tabs w) (name : ByteArray) (hn : name.size ≤ 1099511627776) (l : List Node) (v : Value) (hv : Rd w 3 v l.length (nodeCells l)) (hfit : NodesSmall l) (hpl : (packP l).length ≤ 70368744177664)
 (refs : List (List UInt8)) (vr : Value) (hr : Rd w 1 vr refs.length (svs refs)) (hrl : refs.length ≤ 1099511627776) (hrs : ∀ r ∈ refs, r.length ≤ 1099511627776) :
 Calls Tryz.prog 24 #[pv s, .string name, v, vr] w (InsPost w F s (insE L name.data.toList l refs)) := by
 have HS := Lib.hid h
 have HT := Lib.hid hT
 have HV := Lib.hid hv
 have HF := Lib.hid hfit
 have HR := Lib.hid hr
 have HRS := Lib.hid hrs
 have HPL := Lib.hid hpl
 obtain ⟨va, vc, rfl, hc1, hc2⟩ := hr.shape
 unfold maxLen at hc2
 clear h hT hv hfit hr hrs hpl
 unfold pv
 go_enter Tryz.func24, Tryz.ntmps24
 go_wp2_with fail
 refine (path_any _ _).mono ?_
 rintro e w1 ⟨rfl, hk1⟩
 have HK1 := Lib.hid hk1
 clear hk1
 cases hp : pathB name.data.toList with
 | false =>
   have HP := Lib.hid hp
   clear hp
   go_wp2_with fail
   go_ret
   rw [insE_a HP.out]
   exact InsPost.same HS.out HK1.out
 | true =>
 have HP := Lib.hid hp
 clear hp
 go_wp2_with fail
 refine (wrong_any v l _ (HV.out.non HK1.out) (HT.out.keeps HK1.out) (fun n hn => ?_)).mono ?_
 ·have := HF.out n hn
  omega
 rintro e w2 ⟨rfl, hk2⟩
 have HK2 := Lib.hid (HK1.out.trans hk2 fun _ h => h.elim)
 clear hk2 HK1
 by_cases hw : 0 ≤ wrongL l
 ·have HW := Lib.hid hw
  have hd : decide (0 ≤ wrongL l) = true := decide_eq_true hw
  clear hw
  go_wp2_with fail
  go_ret
  rw [insE_b HP.out HW.out]
  exact InsPost.same HS.out HK2.out
 have hd : decide (0 ≤ wrongL l) = false := decide_eq_false hw
 have hw1 : wrongL l = -1 := by
  rcases wrong_range l with e | e
  ·exact e
  ·exact absurd e hw
 have HW := Lib.hid hw1
 have hl30 := wrong_short hw1
 clear hw hw1
 go_wp2_with fail
 refine (pack_any v l _ (HV.out.non HK2.out) (by omega) HF.out HPL.out).mono ?_
 rintro e w3 ⟨rfl, hk3⟩
 have HK3 := Lib.hid (HK2.out.trans hk3 fun _ h => h.elim)
 clear hk3 HK2
 go_wp2_with fail
 refine (cloneN_any l v _ (HV.out.non HK3.out) (by omega)).mono ?_
 rintro e w4 ⟨vt, rfl, hvt, hk4⟩
 obtain ⟨ta, tc, rfl, -, -⟩ := hvt.shape
 have HVT := Lib.hid hvt
 have HB3 : Hid (w.heap.size ≤ w3.heap.size) := HK3.out.size
 have HK4 := Lib.hid (HK3.out.trans hk4 fun _ h => h.elim)
 clear hk4 HK3 hvt
 go_wp2_with fail
 refine (cloneS_any refs _ _ (HR.out.non HK4.out) hrl).mono ?_
 rintro e w5 ⟨vs, rfl, hvs, hk5⟩
 obtain ⟨sa, sc, rfl, -, -⟩ := hvs.shape
 have HVS := Lib.hid hvs
 have HB4 : Hid (w.heap.size ≤ w4.heap.size) := HK4.out.size
 have HS5 : Hid (w4.heap.size ≤ w5.heap.size) := hk5.size
 have HVT5 := Lib.hid (HVT.out.rd.non hk5)
 have HK5 := Lib.hid (HK4.out.trans hk5 fun _ h => h.elim)
 clear hk5 HK4 hvs
 go_upto_region 6 with (fail)
 have hent : EntAt (w5.alloc (.cells #[.string ⟨(packP l).toArray⟩, .slice ta l.length tc, .slice sa refs.length sc] TE)) (fun k => w.heap.size ≤ k ∧ k < w5.heap.size + 1) w5.heap.size ⟨name.data.toList, l, refs⟩ := by
  have hszw := HK5.out.size
  have hb3 := HB3.out
  have hb4 := HB4.out
  refine ⟨⟨by omega, by omega⟩, _, _, Blk.new _ _ _, HVT5.out.non ((Keeps.refl _ _).alloc _), HVS.out.rd.non ((Keeps.refl _ _).alloc _), fun b hb => ?_, fun b hb => ?_⟩
  ·exact ⟨Nat.le_trans hb3 (HVT.out.own b hb).1, Nat.lt_succ_of_lt (Nat.lt_of_lt_of_le (HVT.out.own b hb).2 (HS5.out))⟩
  ·exact ⟨Nat.le_trans hb4 (HVS.out.own b hb).1, Nat.lt_succ_of_lt (HVS.out.own b hb).2⟩
 have hkW : Keeps Non w (w5.alloc (.cells #[.string ⟨(packP l).toArray⟩, .slice ta l.length tc, .slice sa refs.length sc] TE)) := HK5.out.alloc _
 have hszW : (w5.alloc (.cells #[.string ⟨(packP l).toArray⟩, .slice ta l.length tc, .slice sa refs.length sc] TE)).heap.size = w5.heap.size + 1 := by simp
 obtain ⟨W, hW⟩ : ∃ W, W = w5.alloc (.cells #[.string ⟨(packP l).toArray⟩, .slice ta l.length tc, .slice sa refs.length sc] TE) := ⟨_, rfl⟩
 obtain ⟨p, hpd⟩ : ∃ p, p = w5.heap.size := ⟨_, rfl⟩
 simp only [TE] at hW hent hkW hszW
 rw [← hW] at hent hkW hszW
 rw [← hW]
 rw [← hpd] at hent hszW
 rw [← hpd]
 have HE := Lib.hid hent
 have HKW := Lib.hid hkW
 have HSZ := Lib.hid hszW
 clear hW hpd hent hkW hszW HVT HVT5 HVS HB3 HB4 HK5 HS5
 have hst := HS.out.non HKW.out
 obtain ⟨mb, m, g1, g2, g3, g4, g5, g6⟩ := hst.map
 have HM : Hid (F mb ∧ Blk W s #[.map (some mb)] TS ∧ MapAt W mb m ∧ m.length = L.length ∧ (∀ x ∈ m, ∃ e ∈ L, e.path = x.1) ∧ ∀ e ∈ L, ∃ p, getM m e.path = some (pv p) ∧ EntAt W F p e) := ⟨g1, g2, g3, g4, g5, g6⟩
 have cs := g2.cell 0
 simp only [List.getElem?_toArray, List.getElem?_cons_zero] at cs
 clear hst g1 g2 g3 g4 g5 g6
 have HRW := Lib.hid (HR.out.non HKW.out)
 go_wp2_with fail
 go_loopg [33] refs.length (fun gk iv wr => ∃ k : Nat, gk = refs.length - k ∧ k ≤ refs.length ∧ iv = .int .i64 k ∧ W = wr ∧ Hid (∀ j (h : j + 1 < k) (h2 : k ≤ refs.length), Op.bytesLess (refs[j]'(by omega)) (refs[j + 1]'(by omega)) = true))
 case atStart => exact ⟨0, rfl, Nat.zero_le _, rfl, rfl, fun j h _ => by omega⟩
 case round =>
  obtain ⟨k, rfl, hk, rfl, rfl, HA⟩ := hrel
  by_cases hlt : k < refs.length
  ·obtain ⟨b, off, cp, hsh, -, -, -, hbl, hc, -⟩ := HRW.out.pos (by omega)
   cases hsh
   have d0 : W.cell? ⟨b, off + k, none⟩ = some (sv refs[k]) := (hc k (by omega)).trans (svs_get refs k hlt)
   rcases Nat.eq_zero_or_pos k with h0 | h0
   ·subst h0
    rw [Nat.add_zero] at d0
    unfold sv at d0
    clear hc
    go_wp2_with fail
    go_roundg (refs.length - 1)
    case measure => omega
    case rel => exact ⟨1, rfl, by omega, by go_num, rfl, fun j h _ => by omega⟩
   ·obtain ⟨j, rfl⟩ : ∃ j, k = j + 1 := ⟨k - 1, by omega⟩
    have hj : j < refs.length := by omega
    have d1 : W.cell? ⟨b, off + j, none⟩ = some (sv refs[j]) := (hc j (by omega)).trans (svs_get refs j hj)
    have HX : Hid (refs[j]? = some refs[j] ∧ refs[j + 1]? = some refs[j + 1]) := ⟨List.getElem?_eq_getElem hj, List.getElem?_eq_getElem hlt⟩
    unfold sv at d0 d1
    clear hc
    generalize refs[j] = x at *
    generalize refs[j + 1] = y at *
    have e1 : ((j + 1 : Nat) : Int) - 1 = (j : Int) := by omega
    cases hl : Op.bytesLess x y with
    | true =>
      have hl2 : (!Op.bytesLess x y) = false := by rw [hl]; rfl
      have HL := Lib.hid hl
      clear hl
      go_wp2_with fail
      go_roundg (refs.length - (j + 1 + 1))
      case measure => omega
      case rel =>
       refine ⟨j + 1 + 1, rfl, by omega, by go_num, rfl, fun i hi hi2 => ?_⟩
       by_cases hij : i = j
       ·subst hij
        have hh := HL.out
        have h1 := HX.out.1
        have h2 := HX.out.2
        rw [List.getElem?_eq_getElem hj, Option.some.injEq] at h1
        rw [List.getElem?_eq_getElem hlt, Option.some.injEq] at h2
        rw [h1, h2]
        exact hh
       ·exact HA.out i (by omega) (by omega)
    | false =>
      have hl2 : (!Op.bytesLess x y) = true := by rw [hl]; rfl
      have HL := Lib.hid hl
      clear hl
      go_wp2_with fail
      go_ret
      have hrf : risingB refs = false := by
       cases hb : risingB refs with
       | false => rfl
       | true =>
         have h3 := (rising_iff refs).1 hb j hlt
         have h1 := HX.out.1
         have h2 := HX.out.2
         rw [List.getElem?_eq_getElem hj, Option.some.injEq] at h1
         rw [List.getElem?_eq_getElem hlt, Option.some.injEq] at h2
         rw [h1, h2, HL.out] at h3
         cases h3
      rw [insE_c HP.out HW.out hrf]
      exact InsPost.same HS.out HKW.out
  ·have hk2 : k = refs.length := by omega
   subst hk2
   have hrise : Hid (risingB refs = true) := (rising_iff refs).2 fun j hj => HA.out j hj (Nat.le_refl _)
   clear HA
   go_wp2_with fail
   have HTU : Hid (Tryz.prog.underlying 82 = some (.map 9 81)) := Tryz.underlying82
   go_loopg [52] refs.length (fun gk iv wr => ∃ k : Nat, gk = refs.length - k ∧ k ≤ refs.length ∧ iv = .int .i64 k ∧ W = wr ∧ Hid (∀ r ∈ refs.take k, r = name.data.toList ∨ (findE L r).isSome = true))
   case atStart => exact ⟨0, rfl, Nat.zero_le _, rfl, rfl, by show ∀ r ∈ _, _; simp⟩
   case round =>
    obtain ⟨k, rfl, hk, rfl, rfl, HB⟩ := hrel
    by_cases hlt : k < refs.length
    ·obtain ⟨b, off, cp, hsh, -, -, -, hbl, hc, -⟩ := HRW.out.pos (by omega)
     cases hsh
     have d0 : W.cell? ⟨b, off + k, none⟩ = some (sv refs[k]) := (hc k (by omega)).trans (svs_get refs k hlt)
     have HX : Hid (refs[k]? = some refs[k] ∧ refs[k].length ≤ 1099511627776 ∧ refs[k] ∈ refs) := ⟨List.getElem?_eq_getElem hlt, HRS.out _ (List.getElem_mem _), List.getElem_mem _⟩
     have d0' := d0
     clear hc
     generalize refs[k] = x at *
     unfold sv at d0
     rcases StoreAt.look HM.out.2.2.1 HM.out.2.2.2.2.1 HM.out.2.2.2.2.2 x with ⟨hf, hg⟩ | ⟨e, q, hf, hel, hep, hg, hE⟩
     ·have hval : (getM m x).getD (.pointer none) = .pointer none := by rw [hg]; rfl
      have HFN := Lib.hid hf
      clear hf hg
      have HVAL := Lib.hid hval
      clear hval
      by_cases hx : x = name.data.toList
      ·have hb : (!x == name.toList) = false := by rw [ByteArray.toList_eq, hx]; simp
       have HXN := Lib.hid hx
       clear hx
       go_wp2_with (first | (at_lookup; refine wpl_look _ rfl _ _ _ rfl _ _ HTU.out Tryz.underlying9 (.pointer none) (Tryz.zeroValue81 _) mb m rfl HM.out.2.2.1 x rfl HX.out.2.1 ?_; rw [HVAL.out]))
       go_roundg (refs.length - (k + 1))
       case measure => omega
       case rel =>
        refine ⟨k + 1, rfl, by omega, by go_num, rfl, ?_⟩
        show ∀ r ∈ _, _
        intro r hr
        rw [List.take_add_one, HX.out.1, List.mem_append] at hr
        rcases hr with hr | hr
        ·exact HB.out r hr
        ·simp only [Option.toList_some, List.mem_singleton] at hr
         rw [hr]
         exact .inl HXN.out
      ·have hb : (!x == name.toList) = true := by rw [ByteArray.toList_eq]; simpa using hx
       have HXN : Hid (¬ x = name.data.toList) := hx
       clear hx
       go_wp2_with (first | (at_lookup; refine wpl_look _ rfl _ _ _ rfl _ _ HTU.out Tryz.underlying9 (.pointer none) (Tryz.zeroValue81 _) mb m rfl HM.out.2.2.1 x rfl HX.out.2.1 ?_; rw [HVAL.out]))
       go_ret
       rw [insE_d HP.out HW.out hrise.out HX.out.2.2 HXN.out HFN.out]
       exact InsPost.same HS.out HKW.out
     ·have hval : (getM m x).getD (.pointer none) = .pointer (some ⟨q, 0, none⟩) := by rw [hg]; rfl
      have HFN : Hid ((findE L x).isSome = true) := by show _ = _; rw [hf]; rfl
      clear hf hg hE hel hep
      have HVAL := Lib.hid hval
      clear hval
      go_wp2_with (first | (at_lookup; refine wpl_look _ rfl _ _ _ rfl _ _ HTU.out Tryz.underlying9 (.pointer none) (Tryz.zeroValue81 _) mb m rfl HM.out.2.2.1 x rfl HX.out.2.1 ?_; rw [HVAL.out]))
      go_roundg (refs.length - (k + 1))
      case measure => omega
      case rel =>
       refine ⟨k + 1, rfl, by omega, by go_num, rfl, ?_⟩
       show ∀ r ∈ _, _
       intro r hr
       rw [List.take_add_one, HX.out.1, List.mem_append] at hr
       rcases hr with hr | hr
       ·exact HB.out r hr
       ·simp only [Option.toList_some, List.mem_singleton] at hr
        rw [hr]
        exact .inr HFN.out
    ·have hk2 : k = refs.length := by omega
     subst hk2
     have hnl : name.data.toList.length ≤ 1099511627776 := by rw [dlen]; exact hn
     have HOK : Hid (InsOk L name.data.toList l refs) := ⟨HP.out, HW.out, hrise.out, fun r hr => HB.out r (by rw [List.take_length]; exact hr)⟩
     clear HB hrise
     rcases StoreAt.look HM.out.2.2.1 HM.out.2.2.2.2.1 HM.out.2.2.2.2.2 name.data.toList with ⟨hf, hg⟩ | ⟨e, q, hf, hel, hep, hg, hE⟩
     ·have hval : (getM m name.data.toList).getD (.pointer none) = .pointer none := by rw [hg]; rfl
      have HFN := Lib.hid hf
      have HG := Lib.hid hg
      clear hf hg
      have HVAL := Lib.hid hval
      clear hval
      have hmlen : ∀ ty, Sem.run Tryz.prog (Builtin.len_ #[82] ty #[.map (some mb)]) W = .ok (.int .i64 L.length) W := fun ty => by rw [← HM.out.2.2.2.1]; exact run_len_map HTU.out HM.out.2.2.1 ty
      by_cases h10 : L.length = 10
      ·have hb : ((L.length : Int) == 10) = true := by rw [h10]; rfl
       have H10 := Lib.hid h10
       clear h10
       go_wp2_with (first | (at_lookup; refine wpl_look _ rfl _ _ _ rfl _ _ HTU.out Tryz.underlying9 (.pointer none) (Tryz.zeroValue81 _) mb m rfl HM.out.2.2.1 name.data.toList rfl hnl ?_; rw [HVAL.out]))
       go_ret
       have hins : insE L name.data.toList l refs = (14, L) := by rw [insE_e HOK.out, HFN.out, if_pos H10.out]
       rw [hins]
       exact InsPost.same HS.out HKW.out
      ·have hb : ((L.length : Int) == 10) = false := by rw [beq_eq_false_iff_ne]; omega
       have H10 : Hid (¬ L.length = 10) := h10
       clear h10
       have HPV : Hid (pv p = .pointer (some ⟨p, 0, none⟩)) := rfl
       go_wp2_with (first | (at_lookup; refine wpl_look _ rfl _ _ _ rfl _ _ HTU.out Tryz.underlying9 (.pointer none) (Tryz.zeroValue81 _) mb m rfl HM.out.2.2.1 name.data.toList rfl hnl ?_; rw [HVAL.out]) | (at_mapUpdate; refine wpl_store _ rfl _ _ _ _ rfl _ _ HTU.out Tryz.underlying9 mb m rfl HM.out.2.2.1 name.data.toList rfl hnl (pv p) rfl ?_; intro w9 hm9 hk9 hs9))
       go_ret
       have hins : insE L name.data.toList l refs = (0, putE L ⟨name.data.toList, l, refs⟩) := by rw [insE_e HOK.out, HFN.out, if_neg H10.out]
       rw [hins]
       have hok : StoreOk (putE L ⟨name.data.toList, l, refs⟩) := by
        have := insE_ok HS.out.ok name.data.toList l refs
        rw [hins] at this
        exact this
       refine ⟨rfl, ⟨_, HS.out.put HT.out.top HKW.out HM.out HE.out HSZ.out HFN.out hm9 hk9 hs9 hok ⟨HF.out, HPL.out, hrl, HRS.out⟩, fun k hk => hk⟩, ?_⟩
       refine (HKW.out.mono fun _ _ h => h.elim).trans hk9 fun k hk => ?_
       cases hk
       exact .inl HM.out.1
     ·have hval : (getM m name.data.toList).getD (.pointer none) = .pointer (some ⟨q, 0, none⟩) := by rw [hg]; rfl
      have HFN := Lib.hid hf
      have HEN := Lib.hid hE
      have HSAME := Lib.hid (sameE_any W hE HE.out)
      clear hf hg hE hel hep
      have HVAL := Lib.hid hval
      clear hval
      unfold pv at HSAME
      have HQN : Hid (sv name.data.toList = .string name) := by show _ = _; simp [sv]
      go_wp2_with (first | (at_lookup; refine wpl_look _ rfl _ _ _ rfl _ _ HTU.out Tryz.underlying9 (.pointer none) (Tryz.zeroValue81 _) mb m rfl HM.out.2.2.1 name.data.toList rfl hnl ?_; rw [HVAL.out]))
      refine HSAME.out.mono ?_
      rintro ed w9 ⟨rfl, nz, rfl⟩
      cases hse : sameE e ⟨name.data.toList, l, refs⟩ with
      | true =>
        have HSE := Lib.hid hse
        clear hse
        go_wp2_with fail
        go_ret
        have hins : insE L name.data.toList l refs = (0, L) := by rw [insE_e HOK.out, HFN.out]; simp [HSE.out]
        rw [hins]
        exact InsPost.same HS.out (HKW.out.drewN _)
      | false =>
        have HSE := Lib.hid hse
        clear hse
        go_wp2_with fail
        go_ret
        have hins : insE L name.data.toList l refs = (12, L) := by rw [insE_e HOK.out, HFN.out]; simp [HSE.out]
        rw [hins]
        exact InsPost.same HS.out (HKW.out.drewN _)
end Go.Proofs.YtdkogijdfgfpeaaGreatDoor
