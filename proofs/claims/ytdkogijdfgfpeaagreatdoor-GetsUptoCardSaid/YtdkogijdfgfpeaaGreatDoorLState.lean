/- The law's World in memory, as parts that lie apart. -/
import Derived.Test.YtdkogijdfgfpeaaGreatDoorChecked
import Derived.Test.YtdkogijdfgfpeaaGreatDoorMem
import Derived.Test.YtdkogijdfgfpeaaGreatDoorQStore
import Derived.Test.YtdkogijdfgfpeaaGreatDoorStr
import Derived.Test.YtdkogijdfgfpeaaGreatDoorPackw
import Derived.Test.YtdkogijdfgfpeaaGreatDoorOwn
import Derived.Test.YtdkogijdfgfpeaaGreatDoorLaw
namespace Go.Proofs.YtdkogijdfgfpeaaGreatDoor
open Go Go.RowKit
set_option linter.unusedVariables false

abbrev TWd : TypeId := 73
abbrev TPr : TypeId := 132
abbrev TNS : TypeId := 36
abbrev TStr : TypeId := 9
abbrev TNd : TypeId := 49
abbrev TStrs : TypeId := 26
abbrev TNds : TypeId := 50
/-- a store on both sides: the boxes x and r, the stores' blocks F and G -/
structure Pr where
  x : Nat
  s : Nat
  r : Nat
  F : Nat → Prop
  G : Nat → Prop
  L : Ents
structure PrAt (w : World) (p : Pr) : Prop where
  box : Blk w p.x #[pv p.s] TNS
  nF : ¬ p.F p.x
  nG : ¬ p.G p.x
  FG : ∀ k, p.F k → ¬ p.G k
  st : StoreAt w p.F p.s p.L
  qt : QAt w p.G p.r p.L
def pairPart (p : Pr) : Part where
  S := fun k => k = p.x ∨ p.F k ∨ p.G k
  A := fun w => PrAt w p
  st := fun w w' S h k hs => ⟨h.box.keeps k (hs _ (.inl rfl)), h.nF, h.nG, h.FG, h.st.keeps k fun b hb => hs b (.inr (.inl hb)), h.qt.keeps k fun b hb => hs b (.inr (.inr hb))⟩
  lt := fun w h k hk => by
    rcases hk with rfl | hk | hk
    · exact h.box.lt
    · exact h.st.lt k hk
    · exact h.qt.lt k hk
/-- all below a height is as it was -/
def lowPart (W0 : World) : Part where
  S := fun k => k < W0.heap.size
  A := fun w => Below W0.heap.size W0 w
  st := fun w w' S h k hs => ⟨k.os.trans h.os, k.tape.trans h.tape, k.output.trans h.output, Nat.le_trans h.size k.size, fun j hj => (k.block j (Nat.lt_of_lt_of_le hj h.size) (hs j hj)).trans (h.block j hj)⟩
  lt := fun w h k hk => Nat.lt_of_lt_of_le hk h.size
/-- the bytes of the k-th mark -/
def markL (k : Nat) : List UInt8 := [109, 105, 110, 101, UInt8.ofNat (k % 256), UInt8.ofNat (k / 256 % 256), UInt8.ofNat (k / 65536)]
def lsPart (k : Nat) (x : Value × Nat) : Part := slPart TStr 1 x.1 x.2 (List.replicate x.2 (sv (markL k)))
def tsPart (k : Nat) (x : Value × Nat) : Part := slPart TNd 3 x.1 x.2 (nodeCells (List.replicate x.2 ⟨markL k, 0, []⟩))
def lsParts : Nat → List (Value × Nat) → List Part
  | _, [] => []
  | k, x :: r => lsPart k x :: lsParts (k + 1) r
def tsParts : Nat → List (Value × Nat) → List Part
  | _, [] => []
  | k, x :: r => tsPart k x :: tsParts (k + 1) r
theorem lsParts_snoc : ∀ (l : List (Value × Nat)) (k : Nat) (x : Value × Nat), lsParts k (l ++ [x]) = lsParts k l ++ [lsPart (k + l.length) x]
  | [], k, x => rfl
  | y :: r, k, x => by
    show lsPart k y :: lsParts (k + 1) (r ++ [x]) = lsPart k y :: (lsParts (k + 1) r ++ [_])
    rw [lsParts_snoc r (k + 1) x, List.length_cons, show k + 1 + r.length = k + (r.length + 1) by omega]
theorem tsParts_snoc : ∀ (l : List (Value × Nat)) (k : Nat) (x : Value × Nat), tsParts k (l ++ [x]) = tsParts k l ++ [tsPart (k + l.length) x]
  | [], k, x => rfl
  | y :: r, k, x => by
    show tsPart k y :: tsParts (k + 1) (r ++ [x]) = tsPart k y :: (tsParts (k + 1) r ++ [_])
    rw [tsParts_snoc r (k + 1) x, List.length_cons, show k + 1 + r.length = k + (r.length + 1) by omega]
theorem lsParts_mem : ∀ (l : List (Value × Nat)) (k i : Nat) (x : Value × Nat), l[i]? = some x → lsPart (k + i) x ∈ lsParts k l
  | [], k, i, x, h => by simp at h
  | y :: r, k, 0, x, h => by
    simp only [List.getElem?_cons_zero, Option.some.injEq] at h
    subst h
    exact List.mem_cons_self ..
  | y :: r, k, i + 1, x, h => by
    have := lsParts_mem r (k + 1) i x (by simpa using h)
    rw [show k + 1 + i = k + (i + 1) by omega] at this
    exact List.mem_cons_of_mem _ this
theorem tsParts_mem : ∀ (l : List (Value × Nat)) (k i : Nat) (x : Value × Nat), l[i]? = some x → tsPart (k + i) x ∈ tsParts k l
  | [], k, i, x, h => by simp at h
  | y :: r, k, 0, x, h => by
    simp only [List.getElem?_cons_zero, Option.some.injEq] at h
    subst h
    exact List.mem_cons_self ..
  | y :: r, k, i + 1, x, h => by
    have := tsParts_mem r (k + 1) i x (by simpa using h)
    rw [show k + 1 + i = k + (i + 1) by omega] at this
    exact List.mem_cons_of_mem _ this
/-- the law's World: its block, its four slices, its pairs and lists -/
structure LD where
  b : Nat
  vss : Value
  vbs : Value
  vls : Value
  vts : Value
  ps : List Pr
  bs : List (List UInt8)
  ls : List (Value × Nat)
  ts : List (Value × Nat)
def prCells (l : List Pr) : List Value := l.flatMap fun p => [pv p.x, pv p.r]
theorem prCells_length (l : List Pr) : (prCells l).length = l.length * 2 := by
  induction l with
  | nil => rfl
  | cons x r ih => simp only [prCells, List.flatMap_cons, List.length_append, List.length_cons, List.length_nil] at *; omega
theorem prCells_append (a b : List Pr) : prCells (a ++ b) = prCells a ++ prCells b := by simp [prCells]
theorem prCells_at : ∀ (l : List Pr) (k : Nat) (p : Pr), l[k]? = some p → (prCells l)[k * 2]? = some (pv p.x) ∧ (prCells l)[k * 2 + 1]? = some (pv p.r)
  | [], k, p, h => by simp at h
  | y :: r, 0, p, h => by
    simp only [List.getElem?_cons_zero, Option.some.injEq] at h
    subst h
    exact ⟨rfl, rfl⟩
  | y :: r, k + 1, p, h => by
    have := prCells_at r k p (by simpa using h)
    have e : prCells (y :: r) = pv y.x :: pv y.r :: prCells r := rfl
    rw [e, show (k + 1) * 2 = k * 2 + 1 + 1 by omega]
    exact this
def wCells (D : LD) : Array Value := #[D.vss, D.vbs, D.vls, D.vts, .bool false]
def lawTop (D : LD) : List Part :=
  [blkPart D.b (wCells D) TWd, slPart TPr 2 D.vss D.ps.length (prCells D.ps), slPart TStr 1 D.vbs D.bs.length (svs D.bs),
    slPart TStrs 1 D.vls D.ls.length (D.ls.map Prod.fst), slPart TNds 1 D.vts D.ts.length (D.ts.map Prod.fst)]
def lawParts (D : LD) : List Part := lawTop D ++ (D.ps.map pairPart ++ (lsParts 0 D.ls ++ tsParts 0 D.ts))
theorem Parts.sub {ps qs : List Part} {w : World} (h : Parts ps w) (hs : qs.Sublist ps) : Parts qs w := ⟨fun p hp => h.all p (hs.subset hp), h.sep.sublist hs⟩
/-- a part in the middle turns -/
theorem Parts.mid {p q : Part} {l1 l2 : List Part} {w w' : World} (h : Parts (l1 ++ p :: l2) w) (hq : q.A w') (k : Keeps p.S w w') (hs : ∀ j, q.S j → p.S j ∨ w.heap.size ≤ j) : Parts (l1 ++ q :: l2) w' :=
  ((h.perm (List.perm_middle.symm)).turn hq k hs).perm List.perm_middle
theorem Parts.midA {p : Part} {l1 l2 : List Part} {w : World} (h : Parts (l1 ++ p :: l2) w) : p.A w := h.all p (by simp)
/-- facts of the law's World -/
theorem law_blk {X : List Part} {D : LD} {w : World} (h : Parts (X ++ lawParts D) w) : Blk w D.b (wCells D) TWd := h.all (blkPart D.b (wCells D) TWd) (by simp [lawParts, lawTop])
theorem law_ss {X : List Part} {D : LD} {w : World} (h : Parts (X ++ lawParts D) w) : Sl w 0 TPr 2 D.vss D.ps.length (prCells D.ps) := h.all (slPart TPr 2 D.vss D.ps.length (prCells D.ps)) (by simp [lawParts, lawTop])
theorem law_ls {X : List Part} {D : LD} {w : World} (h : Parts (X ++ lawParts D) w) : Sl w 0 TStrs 1 D.vls D.ls.length (D.ls.map Prod.fst) := h.all (slPart TStrs 1 D.vls D.ls.length (D.ls.map Prod.fst)) (by simp [lawParts, lawTop])
theorem law_ts {X : List Part} {D : LD} {w : World} (h : Parts (X ++ lawParts D) w) : Sl w 0 TNds 1 D.vts D.ts.length (D.ts.map Prod.fst) := h.all (slPart TNds 1 D.vts D.ts.length (D.ts.map Prod.fst)) (by simp [lawParts, lawTop])
theorem law_pr {X : List Part} {D : LD} {w : World} (h : Parts (X ++ lawParts D) w) {p : Pr} (hp : p ∈ D.ps) : PrAt w p := h.all (pairPart p) (by simp only [lawParts, List.mem_append, List.mem_map]; exact .inr (.inr (.inl ⟨p, hp, rfl⟩)))
/-- a list is put beside those that were handed out -/
def LD.mined (D : LD) (vls' v' : Value) (n : Nat) : LD := { D with vls := vls', ls := D.ls ++ [(v', n)] }
def LD.noded (D : LD) (vts' v' : Value) (n : Nat) : LD := { D with vts := vts', ts := D.ts ++ [(v', n)] }
theorem law_mined {X : List Part} {D : LD} {w w4 : World} {v' vls' : Value} {n : Nat} (h : Parts (slPart TStr 1 v' n (List.replicate n (sv (markL D.ls.length))) :: (X ++ lawParts D)) w)
    (h4 : Sl w4 0 TStrs 1 vls' (D.ls.length + 1) (D.ls.map Prod.fst ++ [v'])) (k4 : Keeps (OwnOf D.vls) w w4) (ho : vls'.ownBlock = D.vls.ownBlock ∨ ∃ b, vls'.ownBlock = some b ∧ w.heap.size ≤ b) :
    Parts (X ++ lawParts (D.mined vls' v' n)) (w4.setCell ⟨D.b, 2, none⟩ vls') := by
  have h1 : Parts ((slPart TStr 1 v' n (List.replicate n (sv (markL D.ls.length))) :: (X ++ [blkPart D.b (wCells D) TWd, slPart TPr 2 D.vss D.ps.length (prCells D.ps), slPart TStr 1 D.vbs D.bs.length (svs D.bs)])) ++
      slPart TStrs 1 D.vls D.ls.length (D.ls.map Prod.fst) :: ([slPart TNds 1 D.vts D.ts.length (D.ts.map Prod.fst)] ++ (D.ps.map pairPart ++ (lsParts 0 D.ls ++ tsParts 0 D.ts)))) w := by
    simpa [lawParts, lawTop] using h
  have h2 := h1.mid (q := slPart TStrs 1 vls' (D.ls.length + 1) (D.ls.map Prod.fst ++ [v'])) h4 k4 (fun j hj => by
    rcases ho with ho | ⟨b, hb, hge⟩
    · exact .inl (by show D.vls.ownBlock = some j; rw [← ho]; exact hj)
    · right
      have : some b = some j := hb.symm.trans hj
      cases this
      exact hge)
  have h3 : Parts ((slPart TStr 1 v' n (List.replicate n (sv (markL D.ls.length))) :: X) ++ blkPart D.b (wCells D) TWd :: ([slPart TPr 2 D.vss D.ps.length (prCells D.ps), slPart TStr 1 D.vbs D.bs.length (svs D.bs)] ++
      slPart TStrs 1 vls' (D.ls.length + 1) (D.ls.map Prod.fst ++ [v']) :: ([slPart TNds 1 D.vts D.ts.length (D.ts.map Prod.fst)] ++ (D.ps.map pairPart ++ (lsParts 0 D.ls ++ tsParts 0 D.ts))))) w4 := by
    simpa using h2
  have hb : Blk w4 D.b (wCells D) TWd := h3.midA
  have h5 := h3.mid (q := blkPart D.b (wCells (D.mined vls' v' n)) TWd) (w' := w4.setCell ⟨D.b, 2, none⟩ vls') (hb.set 2 vls') ((Keeps.refl _ _).setCell _ _ (.inl rfl)) (fun j hj => .inl hj)
  refine h5.perm ?_
  have e : lsParts 0 (D.ls ++ [(v', n)]) = lsParts 0 D.ls ++ [lsPart D.ls.length (v', n)] := by rw [lsParts_snoc, Nat.zero_add]
  have e2 : ∀ (a b c d : List Part) (p : Part), List.Perm (p :: a ++ b) (a ++ (c ++ (p :: d))) ↔ List.Perm (a ++ b) (a ++ (c ++ d)) := by
    intro a b c d p
    constructor
    · intro hp
      have : List.Perm (a ++ (c ++ (p :: d))) (p :: (a ++ (c ++ d))) := by
        rw [← List.append_assoc, ← List.append_assoc]
        exact List.perm_middle
      exact (List.perm_cons p).1 (hp.trans this)
    · intro hp
      have : List.Perm (a ++ (c ++ (p :: d))) (p :: (a ++ (c ++ d))) := by
        rw [← List.append_assoc, ← List.append_assoc]
        exact List.perm_middle
      exact (List.Perm.cons p hp).trans this.symm
  have e3 : X ++ lawParts (D.mined vls' v' n) = X ++ (([blkPart D.b (wCells (D.mined vls' v' n)) TWd, slPart TPr 2 D.vss D.ps.length (prCells D.ps), slPart TStr 1 D.vbs D.bs.length (svs D.bs), slPart TStrs 1 vls' (D.ls.length + 1) (D.ls.map Prod.fst ++ [v']), slPart TNds 1 D.vts D.ts.length (D.ts.map Prod.fst)] ++ (D.ps.map pairPart ++ lsParts 0 D.ls)) ++ (lsPart D.ls.length (v', n) :: tsParts 0 D.ts)) := by
    simp [lawParts, lawTop, LD.mined, e]
  rw [e3]
  refine ((e2 X _ _ _ _).2 ?_).symm
  simp
theorem law_noded {X : List Part} {D : LD} {w w4 : World} {v' vts' : Value} {n : Nat} (h : Parts (slPart TNd 3 v' n (nodeCells (List.replicate n ⟨markL D.ts.length, 0, []⟩)) :: (X ++ lawParts D)) w)
    (h4 : Sl w4 0 TNds 1 vts' (D.ts.length + 1) (D.ts.map Prod.fst ++ [v'])) (k4 : Keeps (OwnOf D.vts) w w4) (ho : vts'.ownBlock = D.vts.ownBlock ∨ ∃ b, vts'.ownBlock = some b ∧ w.heap.size ≤ b) :
    Parts (X ++ lawParts (D.noded vts' v' n)) (w4.setCell ⟨D.b, 3, none⟩ vts') := by
  have h1 : Parts ((slPart TNd 3 v' n (nodeCells (List.replicate n ⟨markL D.ts.length, 0, []⟩)) :: (X ++ [blkPart D.b (wCells D) TWd, slPart TPr 2 D.vss D.ps.length (prCells D.ps), slPart TStr 1 D.vbs D.bs.length (svs D.bs), slPart TStrs 1 D.vls D.ls.length (D.ls.map Prod.fst)])) ++
      slPart TNds 1 D.vts D.ts.length (D.ts.map Prod.fst) :: (D.ps.map pairPart ++ (lsParts 0 D.ls ++ tsParts 0 D.ts))) w := by
    simpa [lawParts, lawTop] using h
  have h2 := h1.mid (q := slPart TNds 1 vts' (D.ts.length + 1) (D.ts.map Prod.fst ++ [v'])) h4 k4 (fun j hj => by
    rcases ho with ho | ⟨b, hb, hge⟩
    · exact .inl (by show D.vts.ownBlock = some j; rw [← ho]; exact hj)
    · right
      have : some b = some j := hb.symm.trans hj
      cases this
      exact hge)
  have h3 : Parts ((slPart TNd 3 v' n (nodeCells (List.replicate n ⟨markL D.ts.length, 0, []⟩)) :: X) ++ blkPart D.b (wCells D) TWd :: ([slPart TPr 2 D.vss D.ps.length (prCells D.ps), slPart TStr 1 D.vbs D.bs.length (svs D.bs), slPart TStrs 1 D.vls D.ls.length (D.ls.map Prod.fst)] ++
      slPart TNds 1 vts' (D.ts.length + 1) (D.ts.map Prod.fst ++ [v']) :: (D.ps.map pairPart ++ (lsParts 0 D.ls ++ tsParts 0 D.ts)))) w4 := by
    simpa using h2
  have hb : Blk w4 D.b (wCells D) TWd := h3.midA
  have h5 := h3.mid (q := blkPart D.b (wCells (D.noded vts' v' n)) TWd) (w' := w4.setCell ⟨D.b, 3, none⟩ vts') (hb.set 3 vts') ((Keeps.refl _ _).setCell _ _ (.inl rfl)) (fun j hj => .inl hj)
  refine h5.perm ?_
  have e : tsParts 0 (D.ts ++ [(v', n)]) = tsParts 0 D.ts ++ [tsPart D.ts.length (v', n)] := by rw [tsParts_snoc, Nat.zero_add]
  have e3 : X ++ lawParts (D.noded vts' v' n) = (X ++ ([blkPart D.b (wCells (D.noded vts' v' n)) TWd, slPart TPr 2 D.vss D.ps.length (prCells D.ps), slPart TStr 1 D.vbs D.bs.length (svs D.bs), slPart TStrs 1 D.vls D.ls.length (D.ls.map Prod.fst), slPart TNds 1 vts' (D.ts.length + 1) (D.ts.map Prod.fst ++ [v'])] ++ (D.ps.map pairPart ++ (lsParts 0 D.ls ++ tsParts 0 D.ts)))) ++ [tsPart D.ts.length (v', n)] := by
    simp [lawParts, lawTop, LD.noded, e]
  rw [e3]
  refine List.Perm.trans List.perm_append_comm ?_
  simp [tsPart]
end Go.Proofs.YtdkogijdfgfpeaaGreatDoor
/- narlaw: mark, pick, stage. -/
namespace Go.Proofs.YtdkogijdfgfpeaaGreatDoor
open Go Go.RowKit
set_option linter.unusedVariables false

theorem run_string_three {P : Program} (t e : TypeId) (ht : P.underlying t = some (.slice e)) (he : P.underlying e = some (.int .u8)) (dst : TypeId) (hd : P.underlying dst = some .string) (E : TypeId) (w : World) (x y z : Int) :
    (convert t dst (.slice (some ⟨w.heap.size, 0, none⟩) 3 3)).run P (w.alloc (.cells #[.int .u8 x, .int .u8 y, .int .u8 z] E)) = .ok (.string ⟨#[UInt8.ofNat x.toNat, UInt8.ofNat y.toNat, UInt8.ofNat z.toNat]⟩) (w.alloc (.cells #[.int .u8 x, .int .u8 y, .int .u8 z] E)) := by
  rw [run_convert_bytes_arg (w.alloc (.cells #[.int .u8 x, .int .u8 y, .int .u8 z] E)) t e ht he w.heap.size 0 3 3 [x, y, z] rfl (fun i hi => by
    rcases (by omega : i = 0 ∨ i = 1 ∨ i = 2) with rfl | rfl | rfl <;> simp) dst hd]
  rfl
set_option maxHeartbeats 800000 in
set_option maxRecDepth 100000 in
theorem mark_any (k : Nat) (w : World) (hk : k ≤ 1000000) :
    Calls Tryz.prog 71 #[.int .i64 k] w fun e w' => e = .returned (sv (markL k)) ∧ Keeps Non w w' := by
  have kc := fun (w : World) (x y z : Int) => run_string_three (P := Tryz.prog) 45 5 Tryz.underlying45 Tryz.underlying5 9 Tryz.underlying9 5 w x y z
  go_enter Tryz.func71, Tryz.ntmps71
  go_wp2
  go_ret
  exact ⟨rfl, (Keeps.refl _ _).alloc _⟩
set_option maxRecDepth 100000 in
theorem stage_any (k : Int) (w : World) (h1 : -9223372036854775808 ≤ k) (h2 : k ≤ 9223372036854775807) :
    Calls Tryz.prog 31 #[.int .i64 k] w fun e w' => e = .returned (.int .i64 (if k ≤ 5 then 3 else 4)) ∧ w = w' := by
  by_cases h : k ≤ 5
  · have g := decide_eq_true h
    go_enter Tryz.func31, Tryz.ntmps31
    go_wp2_with fail
    go_ret
    exact ⟨rfl, rfl⟩
  · have g := decide_eq_false h
    go_enter Tryz.func31, Tryz.ntmps31
    go_wp2_with fail
    go_ret
    exact ⟨rfl, rfl⟩
def pickN (c n : Int) : Int := (if c < 0 then -(c + 1) else c) % n
set_option maxRecDepth 100000 in
theorem pick_any (c n : Int) (w : World) (hc1 : -9223372036854775808 ≤ c) (hc2 : c ≤ 9223372036854775807) (hn : 0 < n) (hn2 : n ≤ 1000000) :
    Calls Tryz.prog 60 #[.int .i64 c, .int .i64 n] w fun e w' => e = .returned (.int .i64 (pickN c n)) ∧ w = w' := by
  by_cases h : c < 0
  · have HP : Hid (pickN c n = (-(c + 1)) % n) := by show _ = _; rw [pickN, if_pos h]
    have hz : ¬ n = 0 := by omega
    go_enter Tryz.func60, Tryz.ntmps60
    go_wp2_with fail
    go_ret
    exact ⟨int_ret (by rw [HP.out, ← Int.neg_tmod, Int.tmod_eq_emod_of_nonneg (by omega)]), rfl⟩
  · have HP : Hid (pickN c n = c % n) := by show _ = _; rw [pickN, if_neg h]
    have h0 : 0 ≤ c := by omega
    have hz : ¬ n = 0 := by omega
    go_enter Tryz.func60, Tryz.ntmps60
    go_wp2_with fail
    go_ret
    exact ⟨int_ret HP.out.symm, rfl⟩
theorem pick_range (c n : Int) (hn : 0 < n) : ∃ k : Nat, pickN c n = k ∧ (k : Int) < n := by
  unfold pickN
  refine ⟨((if c < 0 then -(c + 1) else c) % n).toNat, ?_, ?_⟩
  · rw [Int.toNat_of_nonneg (Int.emod_nonneg _ (by omega))]
  · rw [Int.toNat_of_nonneg (Int.emod_nonneg _ (by omega))]
    exact Int.emod_lt_of_pos _ hn
set_option maxHeartbeats 800000 in
set_option maxRecDepth 100000 in
theorem newStore_any (w : World) (hT : tabTop ≤ w.heap.size) :
    Calls Tryz.prog 20 #[] w fun e w' => ∃ x s F, e = .returned (pv x) ∧ w.heap.size ≤ x ∧ Blk w' x #[pv s] 36 ∧ StoreAt w' F s [] ∧ (∀ k, F k → w.heap.size ≤ k) ∧ ¬ F x ∧ Keeps Non w w' := by
  go_enter Tryz.func20, Tryz.ntmps20
  go_wp2_with fail
  refine (new_any w hT).mono ?_
  rintro e w1 ⟨s, rfl, hs, h1, hk1⟩
  have H1 := Lib.hid h1
  have HK1 := Lib.hid hk1
  clear h1 hk1
  unfold pv
  go_wp2_with fail
  go_ret
  refine ⟨w1.heap.size, s, _, rfl, HK1.out.size, Blk.new _ _ _, H1.out.non ((Keeps.refl _ _).alloc _), fun k hk => hk.1, fun h => by have := h.2; omega, HK1.out.alloc _⟩
end Go.Proofs.YtdkogijdfgfpeaaGreatDoor
/- (*narlaw.World).mine: a list that was handed out is written all over, grown by two and kept. -/
namespace Go.Proofs.YtdkogijdfgfpeaaGreatDoor
open Go Go.RowKit
set_option linter.unusedVariables false

theorem infoStrsL : (Tryz.prog.info? 26).map (fun i => (i.zero, i.size, i.bytes)) = some (some (.slice none 0 0), 1, 24) := by kernel_rfl
theorem marks_set {α : Type} {m : α} {n k : Nat} {xs : List α} (hl : xs.length = n) (hk : k < n) : (List.replicate k m ++ xs.drop k).set k m = List.replicate (k + 1) m ++ xs.drop (k + 1) := by
  rw [List.set_append_right _ _ (by simp), List.length_replicate, Nat.sub_self, List.drop_eq_getElem_cons (by omega), List.set_cons_zero, List.replicate_succ', List.append_assoc]
  rfl
set_option maxHeartbeats 1600000 in
set_option maxRecDepth 100000 in
theorem mine_any (X : List Part) (D : LD) (w : World) (v : Value) (n : Nat) (xs : List Value) (h : Parts (slPart TStr 1 v n xs :: (X ++ lawParts D)) w) (hn : n ≤ 1099511627776) (hnl : D.ls.length ≤ 1000000) :
    Calls Tryz.prog 63 #[pv D.b, v] w fun e w' => e = .returned (.tuple #[]) ∧ ∃ vls' v', Parts (X ++ lawParts (D.mined vls' v' (n + 2))) w' := by
  have HP := Lib.hid h
  have hv : Sl w 0 TStr 1 v n xs := h.head
  obtain ⟨va, vc, rfl, hc1, hc2⟩ := hv.shape
  have hXL : xs.length = n := by have := hv.len; omega
  have HXL := Lib.hid hXL
  clear hXL
  have hb := law_blk (X := slPart TStr 1 _ _ _ :: X) h
  have hls := law_ls (X := slPart TStr 1 _ _ _ :: X) h
  obtain ⟨la, lc, hlv, hc3, hc4⟩ := hls.shape
  have c2 : w.cell? ⟨D.b, 2, none⟩ = some (.slice la D.ls.length lc) := by rw [← hlv]; exact hb.cell 2
  unfold maxLen at hc2 hc4
  have HLV := Lib.hid hlv
  clear h hv hb hls hlv
  unfold pv
  go_enter Tryz.func63, Tryz.ntmps63
  go_wp2_with fail
  refine (mark_any D.ls.length w hnl).mono ?_
  rintro e w1 ⟨rfl, hk1⟩
  have HP1 : Hid (Parts (slPart TStr 1 (.slice va n vc) n xs :: (X ++ lawParts D)) w1) := HP.out.non hk1
  clear hk1 HP c2
  obtain ⟨m, hm⟩ : ∃ m, sv (markL D.ls.length) = m := ⟨_, rfl⟩
  have HM := Lib.hid hm
  have hone : m.oneCell' = true := by rw [← hm]; rfl
  have hmk : ∃ b, m = .string b := by rw [← hm]; exact ⟨_, rfl⟩
  obtain ⟨mb, rfl⟩ := hmk
  rw [hm]
  clear hm
  go_wp2_with fail
  go_loopg [15] n (fun gk iv wr => ∃ k : Nat, gk = n - k ∧ k ≤ n ∧ iv = .int .i64 k ∧ Hid (Parts (slPart TStr 1 (.slice va n vc) n (List.replicate k (.string mb) ++ xs.drop k) :: (X ++ lawParts D)) wr))
  case atStart => exact ⟨0, rfl, Nat.zero_le _, rfl, by simpa using HP1⟩
  case round =>
    clear HP1
    obtain ⟨k, rfl, hk, rfl, HPR⟩ := hrel
    have hsl : Sl wr 0 TStr 1 (.slice va n vc) n (List.replicate k (.string mb) ++ xs.drop k) := HPR.out.head
    by_cases hlt : k < n
    · obtain ⟨b', o', c', hsh, -, -, -, hltb, hcc, hfz⟩ := hsl.pos (by omega)
      cases hsh
      have f0 := hfz (o' + k)
      obtain ⟨u, hu⟩ : ∃ u, (List.replicate k (Value.string mb) ++ xs.drop k)[k]? = some u := ⟨_, List.getElem?_eq_getElem (by rw [List.length_append, List.length_replicate, List.length_drop, HXL.out]; omega)⟩
      have d0 : wr.cell? ⟨b', o' + k, none⟩ = some u := (hcc k (by omega)).trans hu
      have HSN : Hid (Parts (slPart TStr 1 (.slice (some ⟨b', o', none⟩) n vc) n (List.replicate (k + 1) (.string mb) ++ xs.drop (k + 1)) :: (X ++ lawParts D)) (wr.setCell ⟨b', o' + k, none⟩ (.string mb))) := by
        refine HPR.out.turn ?_ ((Keeps.refl _ _).setCell _ _ (.inl rfl)) fun j hj => .inl hj
        show Sl _ _ _ _ _ _ _
        rw [← marks_set HXL.out hlt]
        exact hsl.set k (by omega) _
      clear hcc hfz hu hsl
      go_wp2_with fail
      go_roundg (n - (k + 1))
      case measure => omega
      case rel => exact ⟨k + 1, rfl, by omega, by go_num, HSN⟩
    · have hk2 : n = k := by omega
      have hrep : List.replicate k (Value.string mb) ++ xs.drop k = List.replicate n (Value.string mb) := by
        rw [List.drop_eq_nil_of_le (by have := HXL.out; omega), List.append_nil, hk2]
      rw [hrep] at hsl HPR
      clear hrep
      subst hk2
      generalize wr = w2 at *
      obtain ⟨i0, hi, hi0, hi1, hi2⟩ := info_parts infoStr
      go_wp2_with (at_builtin; refine wpList_append_own2 rfl _ _ 26 26 rfl 9 i0 _ 1 16 Tryz.underlying26 hi hi0 hi1 hi2 rfl 0 _ _ _ rfl _ rfl 2 [.string mb, .string mb] ?d11 (hsl.alloc _) ?d12 ?d13 ?d14 ?_)
      try (case d11 => omega)
      case d12 => exact Src.ofSl Tryz.underlying26 (Sl.of_new w2 0 (Nat.zero_le _) 9 1 2 [.string mb, .string mb] rfl (by simp [maxLen])) (by intro u hu; simp only [List.mem_cons, List.not_mem_nil, or_false] at hu; rcases hu with rfl | rfl <;> rfl)
      case d13 => unfold maxLen; omega
      case d14 => omega
      intro ao cc w3 hs3 hk3 hkk3 hb3
      have HP3 : Hid (Parts (slPart TStr 1 (.slice ao (n + 2) cc) (n + 2) (List.replicate (n + 2) (sv (markL D.ls.length))) :: (X ++ lawParts D)) w3) := by
        refine (HPR.out.non ((Keeps.refl _ _).alloc _)).turn (q := slPart TStr 1 (.slice ao (n + 2) cc) (n + 2) (List.replicate (n + 2) (sv (markL D.ls.length)))) ?_ hkk3 fun j hj => ?_
        · show Sl _ _ _ _ _ _ _
          rw [HM.out, ← List.replicate_append_replicate]
          exact hs3
        · rcases hb3 with h1 | h1
          · exact .inl (h1.symm.trans hj)
          · right
            have : some _ = some j := h1.symm.trans hj
            cases this
            simp
      clear hs3 hk3 hkk3 hb3 hsl HPR hi hi0 hi1 hi2
      have hls := law_ls (X := slPart TStr 1 _ _ _ :: X) HP3.out
      rw [HLV.out] at hls
      have hb := law_blk (X := slPart TStr 1 _ _ _ :: X) HP3.out
      have c2 : w3.cell? ⟨D.b, 2, none⟩ = some (.slice la D.ls.length lc) := by rw [← HLV.out]; exact hb.cell 2
      clear hb
      obtain ⟨i1, hj, hj0, hj1, hj2⟩ := info_parts infoStrsL
      go_wp2_with (at_builtin; refine wpList_append_own2 rfl _ _ 27 27 rfl 26 i1 _ 1 24 Tryz.underlying27 hj hj0 hj1 hj2 rfl 0 _ _ _ rfl _ rfl 1 [.slice ao (n + 2) cc] ?d21 (hls.alloc _) ?d22 ?d23 ?d24 ?_)
      try (case d21 => omega)
      case d22 => exact Src.ofSl Tryz.underlying27 (Sl.of_new w3 0 (Nat.zero_le _) 26 1 1 [.slice ao (n + 2) cc] rfl (by simp [maxLen])) (by intro u hu; simp only [List.mem_cons, List.not_mem_nil, or_false] at hu; rcases hu with rfl; rfl)
      case d23 => unfold maxLen; omega
      case d24 => omega
      intro ao4 cc4 w4 hs4 hk4 hkk4 hb4
      have HB4 : Hid (Blk w4 D.b (wCells D) TWd) := by
        have h1 := law_blk (X := slPart TStr 1 _ _ _ :: X) (HP3.out.non ((Keeps.refl Non _).alloc (.cells #[.slice ao (n + 2) cc] 26)))
        exact h1.kp hk4 (.inr (by decide))
      have HPF : Hid (Parts (X ++ lawParts (D.mined (.slice ao4 (D.ls.length + 1) cc4) (.slice ao (n + 2) cc) (n + 2))) (w4.setCell ⟨D.b, 2, none⟩ (.slice ao4 (D.ls.length + 1) cc4))) :=
        law_mined (HP3.out.non ((Keeps.refl _ _).alloc _)) hs4 (by rw [HLV.out]; exact hkk4) (by
          rcases hb4 with h1 | h1
          · exact .inl (by rw [HLV.out]; exact h1)
          · exact .inr ⟨_, h1, by simp⟩)
      have c2' : w4.cell? ⟨D.b, 2, none⟩ = some D.vls := HB4.out.cell 2
      have f2 := HB4.out.free 2
      clear hs4 hk4 hkk4 hb4 hls HP3 hj hj0 hj1 hj2 c2
      go_wp2_with fail
      go_end0
      exact ⟨rfl, _, _, HPF.out⟩
end Go.Proofs.YtdkogijdfgfpeaaGreatDoor
/- (*narlaw.World).nodes: a list of nodes that was handed out is written all over, grown by two and kept. -/
namespace Go.Proofs.YtdkogijdfgfpeaaGreatDoor
open Go Go.RowKit
set_option linter.unusedVariables false

theorem infoNdsL : (Tryz.prog.info? 50).map (fun i => (i.zero, i.size, i.bytes)) = some (some (.slice none 0 0), 1, 24) := by kernel_rfl
theorem nodeCells_setL (l : List Node) (j : Nat) (hj : j < l.length) (X : Node) : nodeCells (l.set j X) = (((nodeCells l).set (j * 3) (sv X.path)).set (j * 3 + 1) (.int .i64 X.kind)).set (j * 3 + 2) (sv X.data) := by
  have e1 : l.set j X = l.take j ++ (X :: l.drop (j + 1)) := by rw [List.set_eq_take_append_cons_drop, if_pos hj]
  have e2 : l = l.take j ++ (l[j] :: l.drop (j + 1)) := by rw [← List.drop_eq_getElem_cons hj, List.take_append_drop]
  have hlen : (nodeCells (l.take j)).length = j * 3 := by rw [nodeCells_length, List.length_take, Nat.min_eq_left (by omega)]
  rw [e1]
  conv => rhs; rw [e2]
  rw [nodeCells_append, nodeCells_append]
  generalize nodeCells (l.take j) = A at *
  show A ++ (sv X.path :: .int .i64 X.kind :: sv X.data :: nodeCells (l.drop (j + 1))) = (((A ++ (sv l[j].path :: .int .i64 l[j].kind :: sv l[j].data :: nodeCells (l.drop (j + 1)))).set (j * 3) _).set (j * 3 + 1) _).set (j * 3 + 2) _
  rw [List.set_append_right _ _ (by omega), List.set_append_right _ _ (by omega), List.set_append_right _ _ (by omega), hlen, show j * 3 - j * 3 = 0 by omega, show j * 3 + 1 - j * 3 = 1 by omega, show j * 3 + 2 - j * 3 = 2 by omega]
  rfl
theorem Keeps.setO (w : World) (b o n c i0 i1 i2 : Nat) (u0 u1 u2 : Value) : Keeps (OwnOf (.slice (some ⟨b, o, none⟩) n c)) w (((w.setCell ⟨b, i0, none⟩ u0).setCell ⟨b, i1, none⟩ u1).setCell ⟨b, i2, none⟩ u2) :=
  (((Keeps.refl (OwnOf (.slice (some ⟨b, o, none⟩) n c)) w).setCell ⟨b, i0, none⟩ u0 (.inl rfl)).setCell ⟨b, i1, none⟩ u1 (.inl rfl)).setCell ⟨b, i2, none⟩ u2 (.inl rfl)
set_option maxHeartbeats 1600000 in
set_option maxRecDepth 100000 in
theorem nodes_any (X : List Part) (D : LD) (w : World) (v : Value) (l : List Node) (h : Parts (slPart TNd 3 v l.length (nodeCells l) :: (X ++ lawParts D)) w) (hn : l.length ≤ 1099511627776) (hnl : D.ts.length ≤ 1000000) :
    Calls Tryz.prog 62 #[pv D.b, v] w fun e w' => e = .returned (.tuple #[]) ∧ ∃ vts' v', Parts (X ++ lawParts (D.noded vts' v' (l.length + 2))) w' := by
  have HP := Lib.hid h
  have hv : Sl w 0 TNd 3 v l.length (nodeCells l) := h.head
  obtain ⟨va, vc, rfl, hc1, hc2⟩ := hv.shape
  have hb := law_blk (X := slPart TNd 3 _ _ _ :: X) h
  have hls := law_ts (X := slPart TNd 3 _ _ _ :: X) h
  obtain ⟨la, lc, hlv, hc3, hc4⟩ := hls.shape
  have c2 : w.cell? ⟨D.b, 3, none⟩ = some (.slice la D.ts.length lc) := by rw [← hlv]; exact hb.cell 3
  unfold maxLen at hc2 hc4
  have HLV := Lib.hid hlv
  clear h hv hb hls hlv
  unfold pv
  go_enter Tryz.func62, Tryz.ntmps62
  go_wp2_with fail
  refine (mark_any D.ts.length w hnl).mono ?_
  rintro e w1 ⟨rfl, hk1⟩
  have HP1 : Hid (Parts (slPart TNd 3 (.slice va l.length vc) l.length (nodeCells l) :: (X ++ lawParts D)) w1) := HP.out.non hk1
  clear hk1 HP c2
  obtain ⟨m, hm⟩ : ∃ m, sv (markL D.ts.length) = m := ⟨_, rfl⟩
  have HM := Lib.hid hm
  have hmk : ∃ b, m = .string b := by rw [← hm]; exact ⟨_, rfl⟩
  obtain ⟨mb, rfl⟩ := hmk
  rw [hm]
  clear hm
  obtain ⟨nb, hnb⟩ : ∃ nb, w1.heap.size = nb := ⟨_, rfl⟩
  have HP2 : Hid (Parts (slPart TNd 3 (.slice va l.length vc) l.length (nodeCells l) :: ((blkPart nb #[.string mb, .int .i64 0, .string ⟨#[]⟩] TNd :: X) ++ lawParts D)) (w1.alloc (.cells #[.string mb, .int .i64 0, .string ⟨#[]⟩] TNd))) := by
    refine (Parts.add (q := blkPart nb #[.string mb, .int .i64 0, .string ⟨#[]⟩] TNd) HP1.out ?_ ((Keeps.refl _ _).alloc _) fun j hj => by cases hj; omega).perm (List.Perm.swap ..)
    show Blk _ _ _ _
    rw [← hnb]
    exact Blk.new _ _ _
  clear HP1
  go_wp2_with fail
  generalize w1.alloc (.cells #[.string mb, .int .i64 0, .string ⟨#[]⟩] 49) = w2 at *
  clear hnb
  go_loopg [16] l.length (fun gk iv wr => ∃ k : Nat, gk = l.length - k ∧ k ≤ l.length ∧ iv = .int .i64 k ∧ Hid (Parts (slPart TNd 3 (.slice va l.length vc) l.length (nodeCells (List.replicate k ⟨markL D.ts.length, 0, []⟩ ++ l.drop k)) :: ((blkPart nb #[.string mb, .int .i64 0, .string ⟨#[]⟩] TNd :: X) ++ lawParts D)) wr))
  case atStart => exact ⟨0, rfl, Nat.zero_le _, rfl, by simpa using HP2⟩
  case round =>
    clear HP2
    obtain ⟨k, rfl, hk, rfl, HPR⟩ := hrel
    have hsl : Sl wr 0 TNd 3 (.slice va l.length vc) l.length (nodeCells (List.replicate k ⟨markL D.ts.length, 0, []⟩ ++ l.drop k)) := HPR.out.head
    have hnb : Blk wr nb #[.string mb, .int .i64 0, .string ⟨#[]⟩] TNd := HPR.out.all (blkPart nb _ TNd) (by simp)
    have n0 : wr.cell? ⟨nb, 0, none⟩ = some (.string mb) := hnb.cell 0
    have n1 : wr.cell? ⟨nb, 1, none⟩ = some (.int .i64 0) := hnb.cell 1
    have n2 : wr.cell? ⟨nb, 2, none⟩ = some (.string ⟨#[]⟩) := hnb.cell 2
    clear hnb
    by_cases hlt : k < l.length
    · obtain ⟨b', o', c', hsh, -, -, -, hltb, hcc, hfz⟩ := hsl.pos (by omega)
      cases hsh
      have f0 := hfz (o' + k * 3)
      have f1 := hfz (o' + k * 3 + 1)
      have f2 := hfz (o' + k * 3 + 2)
      have hlen : (nodeCells (List.replicate k (⟨markL D.ts.length, 0, []⟩ : Node) ++ l.drop k)).length = l.length * 3 := hsl.len
      obtain ⟨u0, hu0⟩ : ∃ u, (nodeCells (List.replicate k (⟨markL D.ts.length, 0, []⟩ : Node) ++ l.drop k))[k * 3]? = some u := ⟨_, List.getElem?_eq_getElem (by omega)⟩
      obtain ⟨u1, hu1⟩ : ∃ u, (nodeCells (List.replicate k (⟨markL D.ts.length, 0, []⟩ : Node) ++ l.drop k))[k * 3 + 1]? = some u := ⟨_, List.getElem?_eq_getElem (by omega)⟩
      obtain ⟨u2, hu2⟩ : ∃ u, (nodeCells (List.replicate k (⟨markL D.ts.length, 0, []⟩ : Node) ++ l.drop k))[k * 3 + 2]? = some u := ⟨_, List.getElem?_eq_getElem (by omega)⟩
      have d0 : wr.cell? ⟨b', o' + k * 3, none⟩ = some u0 := (hcc (k * 3) (by omega)).trans hu0
      have d1 : wr.cell? ⟨b', o' + k * 3 + 1, none⟩ = some u1 := (hcc (k * 3 + 1) (by omega)).trans hu1
      have d2 : wr.cell? ⟨b', o' + k * 3 + 2, none⟩ = some u2 := (hcc (k * 3 + 2) (by omega)).trans hu2
      have HSN : Hid (Parts (slPart TNd 3 (.slice (some ⟨b', o', none⟩) l.length vc) l.length (nodeCells (List.replicate (k + 1) ⟨markL D.ts.length, 0, []⟩ ++ l.drop (k + 1))) :: ((blkPart nb #[.string mb, .int .i64 0, .string ⟨#[]⟩] TNd :: X) ++ lawParts D)) (((wr.setCell ⟨b', o' + k * 3, none⟩ (.string mb)).setCell ⟨b', o' + k * 3 + 1, none⟩ (.int .i64 0)).setCell ⟨b', o' + k * 3 + 2, none⟩ (.string ⟨#[]⟩))) := by
        refine HPR.out.turn ?_ (Keeps.setO wr b' o' l.length vc (o' + k * 3) (o' + k * 3 + 1) (o' + k * 3 + 2) (.string mb) (.int .i64 0) (.string ⟨#[]⟩)) fun j hj => .inl hj
        show Sl _ _ _ _ _ _ _
        rw [← marks_set rfl hlt, nodeCells_setL _ _ (by simp; omega)]
        have h1 := ((hsl.set (k * 3) (by omega) (.string mb)).set (k * 3 + 1) (by omega) (.int .i64 0)).set (k * 3 + 2) (by omega) (.string ⟨#[]⟩)
        rw [← HM.out] at h1 ⊢
        exact h1
      clear hcc hfz hu0 hu1 hu2 hsl hlen
      go_wp2_with fail
      go_roundg (l.length - (k + 1))
      case measure => omega
      case rel => exact ⟨k + 1, rfl, by omega, by go_num, HSN⟩
    · obtain ⟨n, hn2⟩ : ∃ n, l.length = n := ⟨_, rfl⟩
      have hrep : List.replicate k (⟨markL D.ts.length, 0, []⟩ : Node) ++ l.drop k = List.replicate n ⟨markL D.ts.length, 0, []⟩ := by
        rw [List.drop_eq_nil_of_le (by omega), List.append_nil, show k = n by omega]
      rw [hrep] at hsl HPR
      obtain rfl : k = n := by omega
      have HN2 := Lib.hid hn2
      simp only [hn2] at hsl HPR hn hc1 hk
      rw [hn2]
      clear hrep hn2 hlt
      generalize wr = w3 at *
      obtain ⟨i0, hi, hi0, hi1, hi2⟩ := info_parts infoNd
      have hr2 : nodeCells (List.replicate 2 (⟨markL D.ts.length, 0, []⟩ : Node)) = [.string mb, .int .i64 0, .string ⟨#[]⟩, .string mb, .int .i64 0, .string ⟨#[]⟩] := by
        rw [← HM.out]; rfl
      have HR2 := Lib.hid hr2
      clear hr2
      go_wp2_with (at_builtin; refine wpList_append_own2 rfl _ _ 50 50 rfl 49 i0 _ 3 40 Tryz.underlying50 hi hi0 hi1 hi2 rfl 0 _ _ _ rfl _ rfl 2 [.string mb, .int .i64 0, .string ⟨#[]⟩, .string mb, .int .i64 0, .string ⟨#[]⟩] ?d11 (hsl.alloc _) ?d12 ?d13 ?d14 ?_)
      try (case d11 => omega)
      case d12 => exact Src.ofSl Tryz.underlying50 (Sl.of_new w3 0 (Nat.zero_le _) 49 3 2 [.string mb, .int .i64 0, .string ⟨#[]⟩, .string mb, .int .i64 0, .string ⟨#[]⟩] rfl (by simp [maxLen])) (by intro u hu; simp only [List.mem_cons, List.not_mem_nil, or_false] at hu; rcases hu with rfl | rfl | rfl | rfl | rfl | rfl <;> rfl)
      case d13 => unfold maxLen; omega
      case d14 => omega
      intro ao cc w4 hs3 hk3 hkk3 hb3
      have HP3 : Hid (Parts (slPart TNd 3 (.slice ao (k + 2) cc) (k + 2) (nodeCells (List.replicate (k + 2) ⟨markL D.ts.length, 0, []⟩)) :: ((blkPart nb #[.string mb, .int .i64 0, .string ⟨#[]⟩] TNd :: X) ++ lawParts D)) w4) := by
        refine (HPR.out.non ((Keeps.refl _ _).alloc _)).turn (q := slPart TNd 3 (.slice ao (k + 2) cc) (k + 2) (nodeCells (List.replicate (k + 2) ⟨markL D.ts.length, 0, []⟩))) ?_ hkk3 fun j hj => ?_
        · show Sl _ _ _ _ _ _ _
          rw [← List.replicate_append_replicate, nodeCells_append, HR2.out]
          exact hs3
        · rcases hb3 with h1 | h1
          · exact .inl (h1.symm.trans hj)
          · right
            have : some _ = some j := h1.symm.trans hj
            cases this
            simp
      clear hs3 hk3 hkk3 hb3 hsl HPR hi hi0 hi1 hi2 n0 n1 n2
      have hls := law_ts (X := slPart TNd 3 _ _ _ :: (blkPart nb _ TNd :: X)) HP3.out
      rw [HLV.out] at hls
      have hb := law_blk (X := slPart TNd 3 _ _ _ :: (blkPart nb _ TNd :: X)) HP3.out
      have c2 : w4.cell? ⟨D.b, 3, none⟩ = some (.slice la D.ts.length lc) := by rw [← HLV.out]; exact hb.cell 3
      clear hb
      obtain ⟨i1, hj, hj0, hj1, hj2⟩ := info_parts infoNdsL
      go_wp2_with (at_builtin; refine wpList_append_own2 rfl _ _ 71 71 rfl 50 i1 _ 1 24 Tryz.underlying71 hj hj0 hj1 hj2 rfl 0 _ _ _ rfl _ rfl 1 [.slice ao (k + 2) cc] ?d21 (hls.alloc _) ?d22 ?d23 ?d24 ?_)
      try (case d21 => omega)
      case d22 => exact Src.ofSl Tryz.underlying71 (Sl.of_new w4 0 (Nat.zero_le _) 50 1 1 [.slice ao (k + 2) cc] rfl (by simp [maxLen])) (by intro u hu; simp only [List.mem_cons, List.not_mem_nil, or_false] at hu; rcases hu with rfl; rfl)
      case d23 => unfold maxLen; omega
      case d24 => omega
      intro ao4 cc4 w5 hs4 hk4 hkk4 hb4
      have HB4 : Hid (Blk w5 D.b (wCells D) TWd) := by
        have h1 := law_blk (X := slPart TNd 3 _ _ _ :: (blkPart nb _ TNd :: X)) (HP3.out.non ((Keeps.refl Non _).alloc (.cells #[.slice ao (k + 2) cc] 50)))
        exact h1.kp hk4 (.inr (by decide))
      have HPF : Hid (Parts (X ++ lawParts (D.noded (.slice ao4 (D.ts.length + 1) cc4) (.slice ao (k + 2) cc) (l.length + 2))) (w5.setCell ⟨D.b, 3, none⟩ (.slice ao4 (D.ts.length + 1) cc4))) := by
        rw [HN2.out]
        exact (law_noded (HP3.out.non ((Keeps.refl _ _).alloc _)) hs4 (by rw [HLV.out]; exact hkk4) (by
          rcases hb4 with h1 | h1
          · exact .inl (by rw [HLV.out]; exact h1)
          · exact .inr ⟨_, h1, by simp⟩)).tail
      have c2' : w5.cell? ⟨D.b, 3, none⟩ = some D.vts := HB4.out.cell 3
      have f2 := HB4.out.free 3
      clear hs4 hk4 hkk4 hb4 hls HP3 hj hj0 hj1 hj2 c2
      go_wp2_with fail
      go_end0
      exact ⟨rfl, _, _, HPF.out⟩
end Go.Proofs.YtdkogijdfgfpeaaGreatDoor
