/- The law's World: what a step turns. No program in sight. -/
import Derived.Test.YtdkogijdfgfpeaaGreatDoorChecked
import Derived.Test.YtdkogijdfgfpeaaGreatDoorLState
import Derived.Test.YtdkogijdfgfpeaaGreatDoorOps
import Derived.Test.YtdkogijdfgfpeaaGreatDoorInsert
import Derived.Test.YtdkogijdfgfpeaaGreatDoorQIns
namespace Go.Proofs.YtdkogijdfgfpeaaGreatDoor
open Go Go.RowKit
set_option linter.unusedVariables false

theorem Rd.low {W0 w : World} {size n : Nat} {v : Value} {xs : List Value} (h : Rd W0 size v n xs) (k : Below W0.heap.size W0 w) : Rd w size v n xs := by
  obtain ⟨h1, h2 | ⟨b', off, cap, rfl, h2, h3, h4, h5⟩⟩ := h
  · exact ⟨h1, .inl h2⟩
  · exact ⟨h1, .inr ⟨_, _, _, rfl, h2, h3, Nat.lt_of_lt_of_le h4 k.size, fun j hj => (k.cell (p := ⟨b', off + j, none⟩) h4).trans (h5 j hj)⟩⟩
theorem OpAt.low {W0 w : World} {o : OpV} (h : OpAt W0 o) (k : Below W0.heap.size W0 w) : OpAt w o :=
  { h with rl := h.rl.low k, rm := h.rm.low k, rd := h.rd.low k }
theorem law_low {X : List Part} {D : LD} {W0 w : World} (h : Parts (X ++ lawParts D) w) (hX : lowPart W0 ∈ X) : Below W0.heap.size W0 w := h.all (lowPart W0) (List.mem_append_left _ hX)
/-- what a step may add -/
structure LD.Next (D D' : LD) : Prop where
  b : D'.b = D.b
  ps : D'.ps.length ≤ D.ps.length + 1
  bs : D'.bs.length ≤ D.bs.length + 1
  ls : D'.ls.length ≤ D.ls.length + 1
  ts : D'.ts.length ≤ D.ts.length + 1
theorem LD.Next.refl (D : LD) : D.Next D := ⟨rfl, by omega, by omega, by omega, by omega⟩
theorem LD.next_mined (D : LD) (vls v : Value) (n : Nat) : D.Next (D.mined vls v n) := ⟨rfl, by simp [LD.mined], by simp [LD.mined], by simp [LD.mined], by simp [LD.mined]⟩
theorem LD.next_noded (D : LD) (vts v : Value) (n : Nat) : D.Next (D.noded vts v n) := ⟨rfl, by simp [LD.noded], by simp [LD.noded], by simp [LD.noded], by simp [LD.noded]⟩
theorem LD.next_both (D : LD) (vls v vts u : Value) (n m : Nat) : D.Next ((D.noded vts u m).mined vls v n) := ⟨rfl, by simp [LD.mined, LD.noded], by simp [LD.mined, LD.noded], by simp [LD.mined, LD.noded], by simp [LD.mined, LD.noded]⟩
theorem Sl.ownB {w : World} {B : Nat} {E : TypeId} {size : Nat} {v : Value} {n : Nat} {xs : List Value} (h : Sl w B E size v n xs) (b : Nat) (hb : v.ownBlock = some b) : B ≤ b ∧ ∃ c, Blk w b c E := by
  obtain ⟨h1, ⟨rfl, rfl⟩ | ⟨b', off, cap, c, rfl, hB, hb', h2⟩⟩ := h
  · cases hb
  · cases hb
    exact ⟨hB, _, hb'⟩
/-- two new slices of two types -/
theorem Parts.two {ps : List Part} {w w' : World} {E F : TypeId} {s t n m : Nat} {v u : Value} {xs ys : List Value} (h : Parts ps w) (k : Keeps Non w w') (h1 : Sl w' w.heap.size E s v n xs) (h2 : Sl w' w.heap.size F t u m ys) (hne : E ≠ F) : Parts (slPart E s v n xs :: slPart F t u m ys :: ps) w' := by
  have h3 : Parts (slPart F t u m ys :: ps) w' := h.add (q := slPart F t u m ys) (h2.mono (Nat.zero_le _)) k fun j hj => (h2.ownB j hj).1
  refine ⟨fun p hp => ?_, List.pairwise_cons.2 ⟨fun p hp j hj hpj => ?_, h3.sep⟩⟩
  · rcases List.mem_cons.1 hp with rfl | hp
    · exact h1.mono (Nat.zero_le _)
    · exact h3.all p hp
  · obtain ⟨hB, c, hc⟩ := h1.ownB j hj
    rcases List.mem_cons.1 hp with rfl | hp
    · obtain ⟨-, c', hc'⟩ := h2.ownB j hpj
      exact hne (hc.inj hc').2
    · have := p.lt w (h.all p hp) j hpj
      omega
/-- a new slice beside the parts -/
theorem Parts.put {ps : List Part} {w w' : World} {E : TypeId} {s n : Nat} {v : Value} {xs : List Value} (h : Parts ps w) (k : Keeps Non w w') (h1 : Sl w' w.heap.size E s v n xs) : Parts (slPart E s v n xs :: ps) w' :=
  h.add (q := slPart E s v n xs) (h1.mono (Nat.zero_le _)) k fun j hj => (h1.ownB j hj).1
/-- a new block beside the parts -/
theorem Parts.blk {ps : List Part} {w : World} (h : Parts ps w) (c : Array Value) (T : TypeId) : Parts (blkPart w.heap.size c T :: ps) (w.alloc (.cells c T)) :=
  h.add (q := blkPart w.heap.size c T) (Blk.new w c T) ((Keeps.refl _ _).alloc _) fun j hj => Nat.le_of_eq (Eq.symm hj)
theorem QAt.empty {w : World} {r : Nat} (h : Blk w r #[.slice none 0 0] TQ) : QAt w (One r) r [] :=
  ⟨fun k hk => by cases hk; exact h.lt, rfl, .slice none 0 0, [], h, Sl.nil _ _ _ _, fun b hb => (by cases hb), rfl, fun i e x he hx => by simp at he⟩
/-- a pair is new -/
def LD.paired (D : LD) (vss' : Value) (p : Pr) : LD := { D with vss := vss', ps := D.ps ++ [p] }
theorem LD.next_paired (D : LD) (v : Value) (p : Pr) : D.Next (D.paired v p) := ⟨rfl, by simp [LD.paired], by simp [LD.paired], by simp [LD.paired], by simp [LD.paired]⟩
theorem law_paired {X : List Part} {D : LD} {w w4 : World} {p : Pr} {vss' : Value} (h : Parts (pairPart p :: (X ++ lawParts D)) w)
    (h4 : Sl w4 0 TPr 2 vss' (D.ps.length + 1) (prCells D.ps ++ [pv p.x, pv p.r])) (k4 : Keeps (OwnOf D.vss) w w4) (ho : vss'.ownBlock = D.vss.ownBlock ∨ ∃ b, vss'.ownBlock = some b ∧ w.heap.size ≤ b) :
    Parts (X ++ lawParts (D.paired vss' p)) (w4.setCell ⟨D.b, 0, none⟩ vss') := by
  have h1 : Parts ((pairPart p :: (X ++ [blkPart D.b (wCells D) TWd])) ++
      slPart TPr 2 D.vss D.ps.length (prCells D.ps) :: ([slPart TStr 1 D.vbs D.bs.length (svs D.bs), slPart TStrs 1 D.vls D.ls.length (D.ls.map Prod.fst), slPart TNds 1 D.vts D.ts.length (D.ts.map Prod.fst)] ++ (D.ps.map pairPart ++ (lsParts 0 D.ls ++ tsParts 0 D.ts)))) w := by
    simpa [lawParts, lawTop] using h
  have h2 := h1.mid (q := slPart TPr 2 vss' (D.ps.length + 1) (prCells D.ps ++ [pv p.x, pv p.r])) h4 k4 (fun j hj => by
    rcases ho with ho | ⟨b, hb, hge⟩
    · exact .inl (by show D.vss.ownBlock = some j; rw [← ho]; exact hj)
    · right
      have : some b = some j := hb.symm.trans hj
      cases this
      exact hge)
  have h3 : Parts ((pairPart p :: X) ++ blkPart D.b (wCells D) TWd ::
      (slPart TPr 2 vss' (D.ps.length + 1) (prCells D.ps ++ [pv p.x, pv p.r]) :: ([slPart TStr 1 D.vbs D.bs.length (svs D.bs), slPart TStrs 1 D.vls D.ls.length (D.ls.map Prod.fst), slPart TNds 1 D.vts D.ts.length (D.ts.map Prod.fst)] ++ (D.ps.map pairPart ++ (lsParts 0 D.ls ++ tsParts 0 D.ts))))) w4 := by
    simpa using h2
  have hb : Blk w4 D.b (wCells D) TWd := h3.midA
  have h5 := h3.mid (q := blkPart D.b (wCells (D.paired vss' p)) TWd) (w' := w4.setCell ⟨D.b, 0, none⟩ vss') (hb.set 0 vss') ((Keeps.refl _ _).setCell _ _ (.inl rfl)) (fun j hj => .inl hj)
  refine h5.perm ?_
  have e3 : X ++ lawParts (D.paired vss' p) = (X ++ ([blkPart D.b (wCells (D.paired vss' p)) TWd, slPart TPr 2 vss' (D.ps.length + 1) (prCells D.ps ++ [pv p.x, pv p.r]), slPart TStr 1 D.vbs D.bs.length (svs D.bs), slPart TStrs 1 D.vls D.ls.length (D.ls.map Prod.fst), slPart TNds 1 D.vts D.ts.length (D.ts.map Prod.fst)] ++ D.ps.map pairPart)) ++ (pairPart p :: (lsParts 0 D.ls ++ tsParts 0 D.ts)) := by
    have hc : prCells (D.ps ++ [p]) = prCells D.ps ++ [pv p.x, pv p.r] := by rw [prCells_append]; rfl
    simp [lawParts, lawTop, LD.paired, hc]
  rw [e3]
  refine List.perm_middle.trans ?_
  simp
/-- a pair turns: into another at its place -/
def LD.turned (D : LD) (l1 l2 : List Pr) (p : Pr) : LD := { D with ps := l1 ++ p :: l2 }
theorem law_turned {X : List Part} {D : LD} {w w' : World} {p q : Pr} {l1 l2 : List Pr} (hD : D.ps = l1 ++ p :: l2) (h : Parts (X ++ lawParts D) w) (hx : q.x = p.x) (hr : q.r = p.r) (hq : PrAt w' q) (k : Keeps (pairPart p).S w w') (hs : ∀ j, (pairPart q).S j → (pairPart p).S j ∨ w.heap.size ≤ j) :
    Parts (X ++ lawParts (D.turned l1 l2 q)) w' := by
  have h1 : Parts ((X ++ (lawTop D ++ l1.map pairPart)) ++ pairPart p :: (l2.map pairPart ++ (lsParts 0 D.ls ++ tsParts 0 D.ts))) w := by
    have : X ++ lawParts D = (X ++ (lawTop D ++ l1.map pairPart)) ++ pairPart p :: (l2.map pairPart ++ (lsParts 0 D.ls ++ tsParts 0 D.ts)) := by
      rw [lawParts, hD]; simp
    rw [← this]
    exact h
  have h2 := h1.mid (q := pairPart q) hq k hs
  have hc : prCells (l1 ++ q :: l2) = prCells D.ps := by
    rw [hD, prCells_append, prCells_append]
    show _ ++ (pv q.x :: pv q.r :: prCells l2) = _ ++ (pv p.x :: pv p.r :: prCells l2)
    rw [hx, hr]
  have hl : (l1 ++ q :: l2).length = D.ps.length := by rw [hD]; simp
  have ht : lawTop (D.turned l1 l2 q) = lawTop D := by
    show [blkPart D.b (wCells D) TWd, slPart TPr 2 D.vss (l1 ++ q :: l2).length (prCells (l1 ++ q :: l2)), _, _, _] = _
    rw [hc, hl]
    rfl
  have e : X ++ lawParts (D.turned l1 l2 q) = (X ++ (lawTop D ++ l1.map pairPart)) ++ pairPart q :: (l2.map pairPart ++ (lsParts 0 D.ls ++ tsParts 0 D.ts)) := by
    rw [lawParts, ht]
    simp [LD.turned]
  rw [e]
  exact h2
theorem LD.turned_len {D : LD} {p q : Pr} {l1 l2 : List Pr} (hD : D.ps = l1 ++ p :: l2) : (D.turned l1 l2 q).ps.length = D.ps.length := by rw [hD]; simp [LD.turned]
/-- both sides insert -/
theorem law_insert {X : List Part} {D : LD} {w w1 w2 : World} {p : Pr} (hp : p ∈ D.ps) (h : Parts (X ++ lawParts D) w) {R : Int × Ents} {e1 e2 : Ending} (h1 : InsPost w p.F p.s R e1 w1) (h2 : QInsPost w1 p.G p.r R e2 w2) :
    ∃ D' : LD, D'.b = D.b ∧ D'.ps.length = D.ps.length ∧ D'.bs = D.bs ∧ D'.ls = D.ls ∧ D'.ts = D.ts ∧ Parts (X ++ lawParts D') w2 := by
  obtain ⟨l1, l2, hD⟩ := List.append_of_mem hp
  have hP := law_pr h hp
  obtain ⟨-, ⟨F', hF, hFn⟩, k1⟩ := h1
  obtain ⟨-, ⟨G', hG, hGn⟩, k2⟩ := h2
  have hxlt := hP.box.lt
  have s1 := k1.size
  have hFG : ∀ k, F' k → ¬ p.G k := fun k hk hg => by
    rcases hFn k hk with hk | hk
    · exact hP.FG k hk hg
    · have := hP.qt.lt k hg
      omega
  refine ⟨D.turned l1 l2 ⟨p.x, p.s, p.r, F', G', R.2⟩, rfl, LD.turned_len hD, rfl, rfl, rfl, law_turned hD h rfl rfl ⟨?_, ?_, ?_, ?_, ?_, hG⟩ ?_ ?_⟩
  · exact (hP.box.keeps k1 hP.nF).keeps k2 hP.nG
  · intro hk
    rcases hFn _ hk with hk | hk
    · exact hP.nF hk
    · simp only at hk; omega
  · intro hk
    rcases hGn _ hk with hk | hk
    · exact hP.nG hk
    · simp only at hk; omega
  · intro k hk hg
    have hlt := hF.lt k hk
    rcases hGn k hg with hg | hg
    · exact hFG k hk hg
    · omega
  · exact hF.keeps k2 hFG
  · refine (k1.mono fun k _ hk => .inr (.inl hk)).trans k2 fun k hk => .inl (.inr (.inr hk))
  · intro j hj
    rcases hj with rfl | hj | hj
    · exact .inl (.inl rfl)
    · rcases hFn j hj with hj | hj
      · exact .inl (.inr (.inl hj))
      · exact .inr hj.1
    · rcases hGn j hj with hj | hj
      · exact .inl (.inr (.inr hj))
      · exact .inr (by omega)
end Go.Proofs.YtdkogijdfgfpeaaGreatDoor
