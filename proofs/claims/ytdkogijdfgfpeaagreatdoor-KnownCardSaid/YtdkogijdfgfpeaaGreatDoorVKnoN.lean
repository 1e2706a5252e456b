/- Plain: what an import of narkeep.Known leaves. -/
import Derived.Test.YtdkogijdfgfpeaaGreatDoorVKnoM
import Derived.Test.YtdkogijdfgfpeaaGreatDoorVIImpV
import Derived.Test.YtdkogijdfgfpeaaGreatDoorVExpP
import Derived.Test.YtdkogijdfgfpeaaGreatDoorKeys
import Derived.Test.YtdkogijdfgfpeaaGreatDoorVGrown
import Derived.Test.YtdkogijdfgfpeaaGreatDoorVMap
set_option linter.unusedVariables false
namespace Go.Proofs.YtdkogijdfgfpeaaGreatDoor
open Go Go.RowKit
def KGoal {p : Prop} (_ : ¬ p) : Prop := p
structure KImV (w : World) (F : Nat → Prop) (s : Nat) (OUT : List (List UInt8)) (L2 : Ents) (v : Value) (w' : World) : Prop where
 sl : Sl w' w.heap.size 9 1 v OUT.length (svs OUT)
 st : ∃ F', StoreAt w' F' s L2 ∧ (∀ k, F' k → F k ∨ (w.heap.size ≤ k ∧ k < w'.heap.size)) ∧ ∀ k, v.ownBlock = some k → ¬ F' k
 kp : Keeps F w w'
theorem KImV.before {w w0 w' : World} {F : Nat → Prop} {s : Nat} {OUT : List (List UInt8)} {L2 : Ents} {v : Value} (h : KImV w0 F s OUT L2 v w') (k : Keeps Non w w0) : KImV w F s OUT L2 v w' := by
 obtain ⟨h1, ⟨F', h2, h3, h5⟩, h4⟩ := h
 have := k.size
 exact ⟨h1.mono this, ⟨F', h2, fun j hj => (h3 j hj).imp id fun h => ⟨by omega, h.2⟩, h5⟩, (k.mono fun _ _ h => h.elim).trans h4 fun _ h => .inl h⟩
theorem KImV.after {w w1 w' : World} {F : Nat → Prop} {s : Nat} {OUT : List (List UInt8)} {L2 : Ents} {v : Value} (h : KImV w F s OUT L2 v w1) (k : Keeps Non w1 w') : KImV w F s OUT L2 v w' := by
 obtain ⟨h1, ⟨F', h2, h3, h5⟩, h4⟩ := h
 have := k.size
 exact ⟨h1.non k, ⟨F', h2.non k, fun j hj => (h3 j hj).imp id fun h => ⟨h.1, by omega⟩, h5⟩, h4.trans k fun _ h => h.elim⟩
def kImpC (r : KImp) : Bool := (match importL [] r.s with
 | .error e => e.1 == r.e && e.2 == r.at' && !(r.e == 0)
 | .ok _ => r.e == 0 && r.at' == 0) && decide (r.s.length ≤ 1000)
theorem kImpC_all : kImps.all kImpC = true := by decide +kernel
theorem kimp_len {i : Nat} {r : KImp} (h : kImps[i]? = some r) : r.s.length ≤ 1000 := by
 have h1 := List.all_eq_true.1 kImpC_all r (List.mem_of_getElem? h)
 unfold kImpC at h1
 simp only [Bool.and_eq_true, decide_eq_true_eq] at h1
 exact h1.2
theorem kimp_sum {i : Nat} {r : KImp} (h : kImps[i]? = some r) : ∃ OUT L2, (r.e ≠ 0 → OUT = [] ∧ L2 = []) ∧ ∀ (w : World) (F : Nat → Prop) (s : Nat) (ed : Ending) (w' : World), StoreAt w F s [] → ImpPost w F s [] r.s ed w' →
 ∃ a c, ed = .returned (.tuple #[.slice a OUT.length c, .int .i64 r.e, .int .i64 r.at']) ∧ KImV w F s OUT L2 (.slice a OUT.length c) w' := by
 have h1 := List.all_eq_true.1 kImpC_all r (List.mem_of_getElem? h)
 unfold kImpC at h1
 simp only [Bool.and_eq_true] at h1
 cases hi : importL [] r.s with
 | error e =>
   obtain ⟨er, at'⟩ := e
   rw [hi] at h1
   simp only [Bool.and_eq_true, beq_iff_eq] at h1
   obtain ⟨⟨⟨g1, g2⟩, -⟩, -⟩ := h1
   subst g1 g2
   refine ⟨[], [], fun _ => ⟨rfl, rfl⟩, fun w F s ed w' hs hp => ?_⟩
   unfold ImpPost at hp
   rw [hi] at hp
   obtain ⟨rfl, hk⟩ := hp
   exact ⟨none, 0, rfl, Sl.nil _ _ _ _, ⟨F, hs.non hk, fun _ h => .inl h, fun k hk => by cases hk⟩, hk.mono fun _ _ h => h.elim⟩
 | ok x =>
   rw [hi] at h1
   simp only [Bool.and_eq_true, beq_iff_eq] at h1
   obtain ⟨⟨g1, g2⟩, -⟩ := h1
   rw [g1, g2]
   refine ⟨(commitL [] x.came).2, (commitL [] x.came).1, fun h => absurd rfl h, fun w F s ed w' hs hp => ?_⟩
   unfold ImpPost at hp
   rw [hi] at hp
   obtain ⟨v, rfl, h1, h2, h3⟩ := hp
   obtain ⟨a, c, rfl, -, -⟩ := h1.shape
   exact ⟨a, c, rfl, h1, h2, h3⟩
def kLastAt : Int := ((putAll [wExport, wPath, [113]] ++ kOne ++ putAll [wRefs, wSum]).length : Int)
set_option maxRecDepth 100000 in
theorem kLast_sum (w : World) (F : Nat → Prop) (s : Nat) (ed : Ending) (w' : World) (hp : ImpPost w F s (kSix 6) kLast ed w') : ed = .returned (.tuple #[.slice none 0 0, .int .i64 14, .int .i64 kLastAt]) ∧ Keeps Non w w' := by
 have h1 := kLast_imp
 unfold ImpPost at hp
 cases hi : importL (kSix 6) kLast with
 | error e =>
   rw [hi] at hp h1
   obtain ⟨rfl, hk⟩ := hp
   have h2 : e = (14, kLastAt) := h1
   rw [h2]
   exact ⟨rfl, hk⟩
 | ok x =>
   rw [hi] at h1
   have h2 : (0 : Int) = 14 := (Prod.ext_iff.1 h1).1
   exact absurd h2 (by decide)
theorem kSix_zero : kSix 0 = kSt 15 := rfl
theorem kName_ba {j : Nat} {KB : ByteArray} (h : (⟨#[UInt8.ofNat (48 + j)]⟩ : ByteArray) = KB) : (⟨#[107]⟩ : ByteArray) ++ KB = ⟨(kName j).toArray⟩ := by
 subst h
 apply ByteArray.ext
 rw [ByteArray.data_append]
 unfold kName
 rw [UInt8.ofNat_add]
 rfl
theorem kByte {j : Nat} {KB : ByteArray} (h : (⟨#[UInt8.ofNat (48 + j)]⟩ : ByteArray) = KB) (b : Nat) (w : World) (hc : w.cell? ⟨b, 0, none⟩ = some (.int .u8 (48 + (j : Int)))) :
 (convert 45 9 (.slice (some ⟨b, 0, none⟩) 1 1)).run Tryz.prog w = .ok (.string KB) w := by
 subst h
 rw [run_convert_bytes_arg w 45 5 Tryz.underlying45 Tryz.underlying5 b 0 1 1 [48 + (j : Int)] rfl (fun i hi => by
  obtain rfl : i = 0 := by omega
  exact hc) 9 Tryz.underlying9]
 have : (48 + (j : Int)).toNat = 48 + j := by omega
 simp [strOfNums, this]
theorem kByteN {j : Nat} {KB : ByteArray} (h : (⟨#[UInt8.ofNat (48 + j)]⟩ : ByteArray) = KB) (w : World) :
 (convert 45 9 (.slice (some ⟨w.heap.size, 0, none⟩) 1 1)).run Tryz.prog (w.alloc (.cells #[.int .u8 (48 + (j : Int))] 5)) = .ok (.string KB) (w.alloc (.cells #[.int .u8 (48 + (j : Int))] 5)) :=
 kByte h _ _ (by simp)
theorem kByteD {j : Nat} {KB : ByteArray} (h : (⟨#[UInt8.ofNat (48 + j)]⟩ : ByteArray) = KB) (w : World) :
 (convert 45 9 (.slice (some ⟨w.heap.size, 0, none⟩) 1 1)).run Tryz.prog (w.alloc (.cells #[.int .u8 (48 + (j : Int))] 5)).drew = .ok (.string KB) (w.alloc (.cells #[.int .u8 (48 + (j : Int))] 5)).drew :=
 kByte h _ _ (by show (w.alloc (.cells #[.int .u8 (48 + (j : Int))] 5)).cell? _ = _; simp)
theorem kByteK {j : Nat} {KB : ByteArray} (h : (⟨#[UInt8.ofNat (48 + j)]⟩ : ByteArray) = KB) (w w' : World) (k : Keeps Non (w.alloc (.cells #[.int .u8 (48 + (j : Int))] 5)).drew w') :
 (convert 45 9 (.slice (some ⟨w.heap.size, 0, none⟩) 1 1)).run Tryz.prog w' = .ok (.string KB) w' :=
 kByte h _ _ (((k.below (Nat.le_refl _) fun _ _ h => h).cell (p := ⟨w.heap.size, 0, none⟩) (by show _ < (w.alloc (.cells #[.int .u8 (48 + (j : Int))] 5)).heap.size; simp)).trans (by show (w.alloc (.cells #[.int .u8 (48 + (j : Int))] 5)).cell? _ = _; simp))
structure KAt (W0 w : World) (F : Nat → Prop) (xb st : Nat) (L : Ents) : Prop where
 sto : ∃ G, StoreAt w G st L ∧ (∀ k, G k → F k ∨ W0.heap.size ≤ k)
 kp : Keeps F W0 w
 tabs : Tabs w
 blk : Blk w xb #[pv st] 36
 far : ¬ F xb
 lt : xb < W0.heap.size
 top : ∀ k, F k → tabTop ≤ k
 tt : tabTop ≤ W0.heap.size
theorem KAt.non {W0 w w' : World} {F : Nat → Prop} {xb st : Nat} {L : Ents} (h : KAt W0 w F xb st L) (k : Keeps Non w w') : KAt W0 w' F xb st L := by
 obtain ⟨G, h1, h2⟩ := h.sto
 exact ⟨⟨G, h1.non k, h2⟩, h.kp.trans k fun _ h => h.elim, h.tabs.keeps k, h.blk.keeps k fun h => h, h.far, h.lt, h.top, h.tt⟩
theorem KAt.cell {W0 w : World} {F : Nat → Prop} {xb st : Nat} {L : Ents} (h : KAt W0 w F xb st L) : w.cell? ⟨xb, 0, none⟩ = some (.pointer (some ⟨st, 0, none⟩)) := h.blk.cell 0
theorem KAt.start {w : World} {F : Nat → Prop} {xb st : Nat} {L : Ents} (hs : StoreAt w F st L) (ht : Tabs w) (hb : Blk w xb #[pv st] 36) (hf : ¬ F xb) : KAt w w F xb st L :=
 ⟨⟨F, hs, fun k h => .inl h⟩, Keeps.refl _ _, ht, hb, hf, hb.lt, hs.top, ht.top⟩
theorem KAt.insert {W0 w : World} {F : Nat → Prop} {xb st : Nat} {L L' : Ents} {e : Int} (h : KAt W0 w F xb st L) (name : ByteArray) (hn : name.size ≤ 1000) (l : List Node) (v : Value) (hv : Rd w 3 v l.length (nodeCells l))
 (hfit : NodesSmall l) (hpl : (packP l).length ≤ 1000) (refs : List (List UInt8)) (vr : Value) (hr : Rd w 1 vr refs.length (svs refs)) (hrl : refs.length ≤ 1000) (hrs : ∀ r ∈ refs, r.length ≤ 1000) (hi : insE L name.data.toList l refs = (e, L')) :
 Calls Tryz.prog 24 #[.pointer (some ⟨st, 0, none⟩), .string name, v, vr] w fun ed w' => ed = .returned (.int .i64 e) ∧ KAt W0 w' F xb st L' := by
 obtain ⟨G, h1, h2⟩ := h.sto
 refine (insert_any w h1 h.tabs name (by omega) l v hv hfit (by omega) refs vr hr (by omega) (fun r hr => by have := hrs r hr; omega)).mono ?_
 rintro ed w' ⟨h3, ⟨F', h4, h5⟩, h6⟩
 rw [hi] at h3 h4
 have hsz := h.kp.size
 refine ⟨h3, ⟨F', h4, fun k hk => ?_⟩, h.kp.trans h6 h2, h.tabs.below (h6.below h.tabs.top fun k hk hG => ?_) (Nat.le_refl _), h.blk.keeps h6 fun hG => ?_, h.far, h.lt, h.top, h.tt⟩
 ·rcases h5 k hk with h7 | h7
  ·exact h2 k h7
  ·exact .inr (Nat.le_trans hsz h7.1)
 ·rcases h2 k hG with h7 | h7
  ·have := h.top k h7
   omega
  ·have := h.tt
   omega
 ·rcases h2 xb hG with h7 | h7
  ·exact h.far h7
  ·have := h.lt
   omega
theorem KAt.six {W0 w : World} {F : Nat → Prop} {xb st j : Nat} (h : KAt W0 w F xb st (kSix j)) (hj : j < 6) {KB : ByteArray} (hKB : (⟨#[UInt8.ofNat (48 + j)]⟩ : ByteArray) = KB) (a : Option Addr) (c : Nat) (hr : Rd w 3 (.slice a 1 c) 1 (nodeCells [lf []])) :
 Calls Tryz.prog 24 #[.pointer (some ⟨st, 0, none⟩), .string ((⟨#[107]⟩ : ByteArray) ++ KB), .slice a 1 c, .slice none 0 0] w fun ed w' => ed = .returned (.int .i64 0) ∧ KAt W0 w' F xb st (kSix (j + 1)) := by
 rw [kName_ba hKB]
 exact h.insert ⟨(kName j).toArray⟩ (by show 2 ≤ 1000; decide) [lf []] _ hr (small_of (by decide +kernel)) (by decide +kernel) [] _ (Sl.nil w 0 9 1).rd (by simp) (by simp) (kSix_ins hj)
theorem KAt.full {W0 w : World} {F : Nat → Prop} {xb st : Nat} (h : KAt W0 w F xb st (kSix 6)) (a : Option Addr) (c : Nat) (hr : Rd w 3 (.slice a 1 c) 1 (nodeCells [lf []])) :
 Calls Tryz.prog 24 #[.pointer (some ⟨st, 0, none⟩), .string ⟨#[102, 117, 108, 108]⟩, .slice a 1 c, .slice none 0 0] w fun ed w' => ed = .returned (.int .i64 14) ∧ KAt W0 w' F xb st (kSix 6) :=
 h.insert ⟨#[102, 117, 108, 108]⟩ (by show 4 ≤ 1000; decide) [lf []] _ hr (small_of (by decide +kernel)) (by decide +kernel) [] _ (Sl.nil w 0 9 1).rd (by simp) (by simp) kFull_ins
theorem KAt.again {W0 w : World} {F : Nat → Prop} {xb st : Nat} (h : KAt W0 w F xb st (kSix 6)) (a : Option Addr) (c : Nat) (vr : Value) (hr : Rd w 3 (.slice a 1 c) 1 (nodeCells [lf [109]])) (hv : Rd w 1 vr 1 (svs [[109]])) :
 Calls Tryz.prog 24 #[.pointer (some ⟨st, 0, none⟩), .string ⟨#[109]⟩, .slice a 1 c, vr] w fun ed w' => ed = .returned (.int .i64 0) ∧ KAt W0 w' F xb st (kSix 6) :=
 h.insert ⟨#[109]⟩ (by show 1 ≤ 1000; decide) [lf [109]] _ hr (small_of (by decide +kernel)) (by decide +kernel) kM _ hv (by decide) (by simp [kM]) kM_ins
theorem kLast_len : kLast.length ≤ 1000 := by decide +kernel
set_option maxRecDepth 100000 in
theorem KAt.last {W0 w : World} {F : Nat → Prop} {xb st : Nat} (h : KAt W0 w F xb st (kSix 6)) (v : Value) (hv : Rd w 1 v 1 (svs [kLast])) :
 Calls Tryz.prog 21 #[.pointer (some ⟨st, 0, none⟩), v] w fun ed w' => ed = .returned (.tuple #[.slice none 0 0, .int .i64 14, .int .i64 kLastAt]) ∧ KAt W0 w' F xb st (kSix 6) := by
 obtain ⟨G, h1, h2⟩ := h.sto
 have hfl : [kLast].flatten = kLast := by simp
 refine (import_any w h1 h.tabs [kLast] v hv (by rw [hfl]; exact Nat.le_trans kLast_len (by decide)) (by simp)).mono fun ed w' hp => ?_
 rw [hfl] at hp
 obtain ⟨h3, h4⟩ := kLast_sum w G st ed w' hp
 exact ⟨h3, h.non h4⟩
theorem kLastAt_of {P X Q : ByteArray} (h1 : (⟨(putAll [wExport, wPath, [113]]).toArray⟩ : ByteArray) = P) (h2 : (⟨kOne.toArray⟩ : ByteArray) = X) (h3 : (⟨(putAll [wRefs, wSum]).toArray⟩ : ByteArray) = Q) : kLastAt = ((P ++ X ++ Q).size : Int) := by
 subst h1 h2 h3
 rw [← ba_app, ← ba_app]
 rfl
end Go.Proofs.YtdkogijdfgfpeaaGreatDoor
namespace Go.Proofs.YtdkogijdfgfpeaaGreatDoor
open Go Go.RowKit Go.MapKept Go.ChangeShapes Go.WideShapes Go.ChangeMaps Go.Maps Go.Proofs
def blindR (v : Value) : Option (DataW Unit × List MemPlace) := some (.nil, [])
theorem ownsMap_of {P : Program} {w : World} {kt : TypeId} (hk : P.underlying kt = some .string) {b : Nat} {m : MapL} (h : MapAt w b m) (hl : m.length ≤ 1099511627776) :
 ∃ D0 : DataW Unit, w.ownsMap P kt blindR b m.length D0 ∧ (strKeys D0).Perm (m.map Prod.fst) ∧ Maps.size D0 = m.length := by
 obtain ⟨es, clock, hb, hm⟩ := h
 have hml : m.length = es.toList.length := by
  have := congrArg List.length hm.ents
  simpa using this.symm
 have hkeys : ∀ e ∈ es.toList, ∃ x ∈ m, e.key = sv x.1 := fun e he => by
  obtain ⟨x, hx, hxk, -⟩ := hm.key he
  exact ⟨x, hx, hxk⟩
 have hrg : ∀ e ∈ es.toList, ∀ x ∈ m, e.key = sv x.1 → Go.WideElems.rd P kt blindR e = some (.string x.1, .nil) := fun e he x hx hex => by
  have hsz : (⟨x.1.toArray⟩ : ByteArray).size ≤ maxLen := by have := hm.small x hx; show x.1.toArray.size ≤ _; simp [maxLen]; omega
  unfold Go.WideElems.rd
  rw [hex]
  have : keyOf P kt (sv x.1) = some (.string x.1) := by
   have h1 := WideMaps.keyOf_string_mk hk hsz
   simpa [sv] using h1
  rw [this]
  rfl
 have hfit : Go.WideElems.Fit P kt blindR es clock := by
  refine ⟨by simp [maxLen]; simp at hml; omega, ⟨hm.old, hm.born, ?_⟩, fun e he => ?_⟩
  ·have h1 : es.toList.map (·.key) = (m.map Prod.fst).map sv := by
    have := congrArg (List.map Prod.fst) hm.ents
    rw [List.map_map, List.map_map] at this
    rw [List.map_map]
    exact this
   rw [h1]
   exact List.Pairwise.map sv (fun a b h e => h (svj e)) hm.keys
  ·obtain ⟨x, hx, hex⟩ := hkeys e he
   exact ⟨_, hrg e he x hx hex⟩
 refine ⟨_, ⟨es, clock, hb, hfit, by rw [hml]; exact Nat.le_of_eq (by simp), rfl⟩, ?_, ?_⟩
 ·have h1 := (sorted_perm (es.toList.map (Go.WideElems.rg P kt blindR))).map fun p => strOf p.1
  refine List.Perm.trans h1 (List.Perm.of_eq ?_)
  have h2 : es.toList.map (·.key) = (m.map Prod.fst).map sv := by
   have := congrArg (List.map Prod.fst) hm.ents
   rw [List.map_map, List.map_map] at this
   rw [List.map_map]
   exact this
  rw [List.map_map]
  have h3 : (es.toList.map ((fun p => strOf p.1) ∘ Go.WideElems.rg P kt blindR)).map sv = (m.map Prod.fst).map sv := by
   rw [← h2, List.map_map]
   refine List.map_congr_left fun e he => ?_
   obtain ⟨x, hx, hex⟩ := hkeys e he
   simp only [Function.comp]
   rw [Go.WideElems.rg_of (hrg e he x hx hex), hex]
   rfl
  exact (List.map_inj_right fun a b e => svj e).1 h3
 ·rw [Maps.size_eq, (sorted_perm _).length_eq, List.length_map, hml]
theorem ownsRow_sl {w : World} {B : Nat} {E : TypeId} {size : Nat} {v : Value} {n : Nat} {xs : List Value} (h : w.ownsRow B E size v n xs) : Sl w B E size v n xs := by
 obtain ⟨h1, h2 | ⟨g, cap, cur, h2, h3, h4, h5, h6, h7, h8⟩⟩ := h
 ·exact ⟨h1, .inl h2⟩
 ·refine ⟨h1, .inr ⟨g, 0, cap, cur, h2, h3, h4, h5, h6, by omega, fun j hj => ?_⟩⟩
  rw [Nat.zero_add, ← h8, List.getElem?_take, if_pos hj, Array.getElem?_toList]
theorem sort_rising {l : List (List UInt8)} (h : l.Pairwise fun a b => Op.bytesLess a b = true) : l.mergeSort _root_.Go.leB = l := by
 refine List.mergeSort_of_pairwise (h.imp fun {a b} hab => ?_)
 rw [bytesLess_lt, decide_eq_true_eq] at hab
 simp only [_root_.Go.leB, decide_eq_true_eq]
 exact List.le_of_lt hab
set_option maxHeartbeats 1600000 in
set_option maxRecDepth 100000 in
theorem paths_any {F : Nat → Prop} {s : Nat} {L : Ents} (w : World) (h : StoreAt w F s L) :
 Calls Tryz.prog 22 #[pv s] w fun e w' => ∃ v, e = .returned v ∧ Sl w' w.heap.size 9 1 v L.length (svs (L.map Ent.path)) ∧ Keeps Non w w' := by
 obtain ⟨mb, m, g1, g2, g3, g4, g5, g6⟩ := h.map
 have hten := h.ok.ten
 obtain ⟨D0, hown, hperm, hsize⟩ := ownsMap_of (P := Tryz.prog) (kt := 9) Tryz.underlying9 g3 (by omega)
 have hkp : (m.map Prod.fst).Perm (L.map Ent.path) := by
  refine (List.perm_ext_iff_of_nodup g3.nodup ?_).2 fun x => ?_
  ·exact (List.pairwise_map.2 (h.ok.rise.imp fun {a b} hab e => by rw [e, bytesLess_irrefl] at hab; cases hab))
  ·constructor
   ·intro hx
    obtain ⟨y, hy, rfl⟩ := List.mem_map.1 hx
    obtain ⟨e, he, hep⟩ := g5 y hy
    exact List.mem_map.2 ⟨e, he, hep⟩
   ·intro hx
    obtain ⟨e, he, rfl⟩ := List.mem_map.1 hx
    obtain ⟨p, hp, -⟩ := g6 e he
    exact List.mem_map.2 ⟨_, (getM_mem g3.nodup).1 hp, rfl⟩
 have cs := g2.cell 0
 simp only [List.getElem?_toArray, List.getElem?_cons_zero] at cs
 have hmax : Maps.size D0 ≤ maxLen := by rw [hsize]; simp [maxLen]; omega
 have hbytes : Maps.size D0 * 16 ≤ 140737488355328 := by rw [hsize]; omega
 have hsort : (L.map Ent.path).mergeSort _root_.Go.leB = L.map Ent.path := sort_rising (List.pairwise_map.2 h.ok.rise)
 unfold pv
 refine (callsIn_wide (n := 6)).1 ?_
 have hfK : Fence.wide.fn 52 := trivial
 have hfS : Fence.wide.fn 51 := trivial
 refine callsIn_of_wp Tryz.func22 rfl trivial ?_ rfl
 simp only [Tryz.ntmps22, List.size_toArray, List.length_cons, List.length_nil, Nat.reduceAdd, Nat.reduceSub, Array.replicate_succ, Array.replicate_zero, List.push_toArray, List.append_toArray, List.nil_append, List.cons_append]
 gi_wp2_with (first
  | (gi_at_call 52; refine (Tryz.maps_Keys_52 _ _).mono ?_; rintro e w' ⟨rfl, rfl⟩)
  | (gi_at_call 51; refine (Tryz.slices_Sorted_keys_51_52 mb m.length D0 blindR w hown hmax hbytes).mono ?_; rintro e w' ⟨v, ss, rfl, hS, hrow, hnil, hb⟩))
 go_ret
 have hss : ss.mergeSort _root_.Go.leB = L.map Ent.path := by
  rw [mergeSort_of_perm (hS.trans (hperm.trans hkp)), hsort]
 have hlen : ss.length = L.length := by
  have := (hS.trans (hperm.trans hkp)).length_eq
  simpa using this
 have hsl := ownsRow_sl hrow
 rw [hlen] at hsl
 have hxs : (ss.mergeSort fun x y => decide (x ≤ y)).map encStr = svs (L.map Ent.path) := by
  have : (ss.mergeSort fun x y => decide (x ≤ y)) = L.map Ent.path := hss
  rw [this]
  rfl
 rw [hxs] at hsl
 refine ⟨v, rfl, hsl.mono (by simp), ?_⟩
 have hk1 : Keeps Non w (w.alloc (.cells #[.map (some mb)] 82)) := (Keeps.refl _ _).alloc _
 exact hk1.trans (Keeps.of_below (S := Non) hb fun k hk _ => hk) fun _ h => h.elim
end Go.Proofs.YtdkogijdfgfpeaaGreatDoor
namespace Go.Proofs.YtdkogijdfgfpeaaGreatDoor
open Go Go.RowKit
def ivs (l : List Int) : List Value := l.map (Value.int .i64)
structure GrS (W : World) (vl va vz : Value) (l : List Node) (above : List (List UInt8)) (last : List Int) (w : World) : Prop where
 sl : Sl w W.heap.size 49 3 vl l.length (nodeCells l)
 sa : Sl w W.heap.size 9 1 va above.length (svs above)
 sz : Sl w W.heap.size 3 1 vz last.length (ivs last)
 inv : ∃ st, GInv l above last st
 kp : Keeps Non W w
section
variable {W w w' : World} {vl va vz : Value} {l : List Node} {above : List (List UInt8)} {last : List Int}
theorem GrS.below (h : GrS W vl va vz l above last w) (k : Below w.heap.size w w') : GrS W vl va vz l above last w' :=
 ⟨h.sl.below k, h.sa.below k, h.sz.below k, h.inv, h.kp.trans (Keeps.of_below k (fun k hk _ => hk)) (fun k hk => .inl hk)⟩
theorem GrS.drewN (h : GrS W vl va vz l above last w) (n : Nat) : GrS W vl va vz l above last (w.drewN n) := ⟨h.sl, h.sa, h.sz, h.inv, h.kp.drewN n⟩
end
structure GrM (W : World) (vl va vz : Value) (l : List Node) (above : List (List UInt8)) (last : List Int) (w : World) : Prop where
 sl : Sl w W.heap.size 49 3 vl l.length (nodeCells l)
 sa : Sl w W.heap.size 9 1 va above.length (svs above)
 sz : Sl w W.heap.size 3 1 vz last.length (ivs last)
 kp : Keeps Non W w
theorem GrM.below {W w w' : World} {vl va vz : Value} {l : List Node} {above : List (List UInt8)} {last : List Int} (h : GrM W vl va vz l above last w) (k : Below w.heap.size w w') : GrM W vl va vz l above last w' :=
 ⟨h.sl.below k, h.sa.below k, h.sz.below k, h.kp.trans (Keeps.of_below k (fun k hk _ => hk)) (fun k hk => .inl hk)⟩
end Go.Proofs.YtdkogijdfgfpeaaGreatDoor
namespace Go.Proofs.YtdkogijdfgfpeaaGreatDoor
open Go Go.RowKit
theorem Grown.len {l : List Node} (h : Grown l) : 0 < l.length ∧ l.length ≤ 30 := by
 refine ⟨List.length_pos_iff.2 h.ne, ?_⟩
 have hw := h.good
 unfold wrongL at hw
 rw [if_neg h.ne] at hw
 have := wrong_len l 0 [] hw (by omega)
 omega
theorem sum_le (l : List Node) (c : Nat) (h : ∀ x ∈ l, x.path.length + x.data.length ≤ c) : (l.map fun x => x.path.length + x.data.length).sum ≤ c * l.length := by
 induction l with
 | nil => simp
 | cons x r ih =>
   have h1 := h x (by simp)
   have h2 := ih fun y hy => h y (by simp [hy])
   simp only [List.map_cons, List.sum_cons, List.length_cons, Nat.mul_add]
   omega
theorem Grown.small {l : List Node} (h : Grown l) : NodesSmall l ∧ (packP l).length ≤ 100000 := by
 refine ⟨fun n hn => by have := h.short n hn; omega, ?_⟩
 have h1 := packP_len l
 have h2 := sum_le l 136 fun x hx => by have := h.short x hx; omega
 have h3 := h.len
 omega
set_option maxHeartbeats 800000 in
set_option maxRecDepth 100000 in
theorem newStore_any (w : World) (hT : tabTop ≤ w.heap.size) :
 Calls Tryz.prog 20 #[] w fun e w' => ∃ x s F, e = .returned (pv x) ∧ w.heap.size ≤ x ∧ Blk w' x #[pv s] 36 ∧ StoreAt w' F s [] ∧ (∀ k, F k → w.heap.size ≤ k) ∧ ¬ F x ∧ Keeps Non w w' := by
 go_enter Tryz.func20, Tryz.ntmps20
 go_wp2_with fail
 refine (new_any w hT).mono ?_
 rintro e w1 ⟨s, rfl, hs, h1, hk1⟩
 have H1 := Lib.hid h1
 have HK1 := Lib.hid hk1
 clear h1 hk1
 unfold pv
 go_wp2_with fail
 go_ret
 refine ⟨w1.heap.size, s, _, rfl, HK1.out.size, Blk.new _ _ _, H1.out.non ((Keeps.refl _ _).alloc _), fun k hk => hk.1, fun h => by have := h.2; omega, HK1.out.alloc _⟩
end Go.Proofs.YtdkogijdfgfpeaaGreatDoor
