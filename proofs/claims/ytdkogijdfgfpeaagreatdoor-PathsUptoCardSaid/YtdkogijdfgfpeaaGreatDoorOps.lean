/- An argument []Op opened: slices in slices. -/
import Derived.Test.YtdkogijdfgfpeaaGreatDoorChecked
import Derived.Test.YtdkogijdfgfpeaaGreatDoorLaw
import Derived.Test.YtdkogijdfgfpeaaGreatDoorStr
import Derived.Test.YtdkogijdfgfpeaaGreatDoorRows
namespace Go.Proofs.YtdkogijdfgfpeaaGreatDoor
open Go Go.RowKit Go.WideShapes Go.ChangeShapes Go.ChangeAt
set_option linter.unusedVariables false

def dCells (l : List Int) : List Value := l.map fun z => .int .i64 z
structure OpV where
  kind : Int
  a : Int
  c : Int
  s : ByteArray
  b : ByteArray
  vl : Value
  vm : Value
  vd : Value
  l : List Node
  m : List (List UInt8)
  d : List Int
def opC (o : OpV) : List Value := [.int .i64 o.kind, .int .i64 o.a, .int .i64 o.c, .string o.s, .string o.b, o.vl, o.vm, o.vd]
def I64 (z : Int) : Prop := -9223372036854775808 ≤ z ∧ z ≤ 9223372036854775807
/-- an operation that stands in memory -/
structure OpAt (W : World) (o : OpV) : Prop where
  ik : I64 o.kind
  ia : I64 o.a
  ic : I64 o.c
  ls : o.s.size ≤ 1048576
  lb : o.b.size ≤ 1048576
  rl : Rd W 3 o.vl o.l.length (nodeCells o.l)
  nl : ∀ x ∈ o.l, x.path.length ≤ 1048576 ∧ x.data.length ≤ 1048576
  ll : o.l.length ≤ 1048576
  rm : Rd W 1 o.vm o.m.length (svs o.m)
  nm : ∀ x ∈ o.m, x.length ≤ 1048576
  lm : o.m.length ≤ 1048576
  rd : Rd W 1 o.vd o.d.length (dCells o.d)
  nd : ∀ z ∈ o.d, I64 z
  ld : o.d.length ≤ 1048576
def opsC (l : List OpV) : List Value := l.flatMap opC
theorem flat_len {α β : Type} (cell : α → List β) (size : Nat) (hcl : ∀ a, (cell a).length = size) : ∀ l : List α, (l.flatMap cell).length = l.length * size
  | [] => by simp
  | a :: r => by
    rw [List.flatMap_cons, List.length_append, hcl, flat_len cell size hcl r, List.length_cons, Nat.succ_mul, Nat.add_comm]
theorem flat_at {α β : Type} (cell : α → List β) (size : Nat) (hcl : ∀ a, (cell a).length = size) : ∀ (l : List α) (i j : Nat) (a : α), l[i]? = some a → j < size → (l.flatMap cell)[i * size + j]? = (cell a)[j]?
  | [], i, j, a, h, hj => by simp at h
  | x :: r, 0, j, a, h, hj => by
    simp only [List.getElem?_cons_zero, Option.some.injEq] at h
    subst h
    rw [List.flatMap_cons, Nat.zero_mul, Nat.zero_add, List.getElem?_append_left (by rw [hcl]; exact hj)]
  | x :: r, i + 1, j, a, h, hj => by
    rw [List.flatMap_cons, List.getElem?_append_right (by rw [hcl, Nat.succ_mul]; omega), hcl, Nat.succ_mul, show i * size + size + j - size = i * size + j by omega]
    exact flat_at cell size hcl r i j a (by simpa using h) hj
section
variable {H : Type} {enc : TypeId × Value → H} {P : Program} {W : World}
theorem bulk_pos (d : DataW H) : 1 ≤ Rows.uptoBulk d := by
  match d with
  | .lit (.string b) => rw [Rows.uptoBulk]; omega
  | .lit (.int k z) => simp [Rows.uptoBulk]
  | .lit (.bool z) => simp [Rows.uptoBulk]
  | .lit (.float k z) => simp [Rows.uptoBulk]
  | .lit .nil => simp [Rows.uptoBulk]
  | .nil => simp [Rows.uptoBulk]
  | .ptr d => simp [Rows.uptoBulk]
  | .slice a b => simp [Rows.uptoBulk]
  | .agg a => simp [Rows.uptoBulk]
  | .iface a b => simp [Rows.uptoBulk]
  | .map a => simp [Rows.uptoBulk]
  | .held a => simp [Rows.uptoBulk]
theorem bulk_mem {d : DataW H} : ∀ l : List (DataW H), d ∈ l → Rows.uptoBulk d ≤ Rows.uptoBulkAll l
  | [], h => by simp at h
  | x :: r, h => by
    rw [Rows.uptoBulkAll]
    rcases List.mem_cons.1 h with rfl | h
    · omega
    · have := bulk_mem r h
      omega
theorem bulk_len (m : Nat) : ∀ l : List (DataW H), (∀ d ∈ l, m ≤ Rows.uptoBulk d) → l.length * m ≤ Rows.uptoBulkAll l
  | [], h => by simp [Rows.uptoBulkAll]
  | x :: r, h => by
    have h1 := h x (List.mem_cons_self ..)
    have h2 := bulk_len m r fun d hd => h d (List.mem_cons_of_mem _ hd)
    rw [Rows.uptoBulkAll, List.length_cons, Nat.succ_mul]
    omega
/-- a slice opened, each element by its own opening -/
theorem open_list {t e : TypeId} (ht : P.underlying t = some (.slice e)) {size : Nat} (hc : P.cellsOf e = size) (hpos : 0 < size) {α : Type} [Inhabited α] (cell : α → List Value) (hcl : ∀ a, (cell a).length = size) (Q : α → Prop) (low : Nat)
    (he : ∀ fuel cs x, DataW.trod enc P W 0 (fun _ => true) true fuel e cs = some x → Rows.uptoBulk x.1 ≤ 1048576 → low ≤ Rows.uptoBulk x.1 ∧ ∃ a, cs = cell a ∧ Q a)
    {fuel : Nat} {cs : List Value} {x : DataW H × List MemPlace} (h : DataW.trod enc P W 0 (fun _ => true) true fuel t cs = some x) (hz : Rows.uptoBulk x.1 ≤ 1048576) :
    ∃ (v : Value) (l : List α), cs = [v] ∧ Rd W size v l.length (l.flatMap cell) ∧ (∀ a ∈ l, Q a) ∧ l.length * low ≤ 1048576 := by
  rcases Deep.open_slice ht h with ⟨rfl, rfl⟩ | ⟨a, len, cap, m, n, D, Pl, rfl, hb, hl, hcm, hm, rfl, hi⟩
  · exact ⟨_, [], rfl, ⟨by simp, .inl ⟨_, _, rfl, rfl, by simp [maxLen]⟩⟩, by simp, by simp⟩
  · simp only [if_true] at hm
    subst hm
    rw [hc] at hi
    have hall : Rows.uptoBulkAll ((List.range len).map D) ≤ 1048576 := by
      have := hz
      simp only [Rows.uptoBulk] at this
      omega
    have hmem : ∀ i, i < len → Rows.uptoBulk (D i) ≤ 1048576 := fun i hil => Nat.le_trans (bulk_mem _ (List.mem_map.2 ⟨i, List.mem_range.2 hil, rfl⟩)) hall
    have hel : ∀ i, i < len → ∃ y : α, W.cells? 0 (a.add (i * size)) size = some (cell y) ∧ Q y := by
      intro i hil
      obtain ⟨cs, hc, ht⟩ := hi i (by omega)
      obtain ⟨-, y, rfl, hq⟩ := he n cs _ ht (hmem i hil)
      exact ⟨y, hc, hq⟩
    obtain ⟨F, hF⟩ := Deep.choose_lt hel
    have hlen : ((List.range len).map F).length = len := by simp
    refine ⟨_, (List.range len).map F, rfl, ?_, ?_, ?_⟩
    · rw [hlen]
      refine ⟨by rw [flat_len cell size hcl, hlen], ?_⟩
      by_cases h0 : len = 0
      · subst h0
        exact .inl ⟨_, _, rfl, rfl, hcm⟩
      · right
        have hc0 : ∀ i, i < len → ∀ j, j < size → W.cell? ((a.add (i * size)).add j) = (cell (F i))[j]? := fun i hil => (World.cells?_some (hF i hil).1).2.2
        have hne : ∀ j, j < size → ∃ u, (cell (F 0))[j]? = some u := fun j hj => ⟨_, List.getElem?_eq_getElem (by rw [hcl]; exact hj)⟩
        obtain ⟨u0, hu0⟩ := hne 0 hpos
        have h00 : W.cell? a = some u0 := by
          have := hc0 0 (by omega) 0 hpos
          simp only [Nat.zero_mul, Addr.add, if_true] at this
          exact this.trans hu0
        have hsp : a.spot = none := World.cell?_spot h00
        obtain ⟨b, off, sp⟩ := a
        simp only at hsp
        subst hsp
        have hbl : b < W.heap.size := by
          rcases Nat.lt_or_ge b W.heap.size with h' | h'
          · exact h'
          · rw [World.cell?, Array.getElem?_eq_none h'] at h00; cases h00
        refine ⟨b, off, m, rfl, hl, hcm, hbl, fun j hj => ?_⟩
        have hd : j / size < len := Nat.div_lt_of_lt_mul (by rw [Nat.mul_comm]; exact hj)
        have hr : j % size < size := Nat.mod_lt _ hpos
        have hdm : j / size * size + j % size = j := by rw [Nat.mul_comm]; exact Nat.div_add_mod j size
        have hq := hc0 (j / size) hd (j % size) hr
        rw [Addr.add_lit, Addr.add_lit, Nat.add_assoc, hdm] at hq
        rw [hq, ← flat_at cell size hcl ((List.range len).map F) (j / size) (j % size) (F (j / size)) (by simp [hd]) hr, hdm]
    · intro y hy
      obtain ⟨i, hil, rfl⟩ := List.mem_map.1 hy
      exact (hF i (List.mem_range.1 hil)).2
    · have h1 := bulk_len low ((List.range len).map D) (by
        intro d hd
        obtain ⟨i, hil, rfl⟩ := List.mem_map.1 hd
        have hil := List.mem_range.1 hil
        obtain ⟨cs, hc, ht⟩ := hi i (by omega)
        exact (he n cs _ ht (hmem i hil)).1)
      simp only [List.length_map, List.length_range] at h1 ⊢
      omega
end
theorem cellsIntO : Tryz.prog.cellsOf 3 = 1 := by kernel_rfl
theorem cellsOp : Tryz.prog.cellsOf 67 = 8 := by kernel_rfl
theorem cellsL : Tryz.prog.cellsOf 50 = 1 := by kernel_rfl
theorem cellsM : Tryz.prog.cellsOf 26 = 1 := by kernel_rfl
theorem cellsD : Tryz.prog.cellsOf 65 = 1 := by kernel_rfl
section
variable {H : Type} {enc : TypeId × Value → H} {W : World}
theorem open_numO {w : World} {base : Nat} {spare : Nat → Bool} {held : Bool} {fuel : Nat} {cs : List Value} {x : DataW H × List MemPlace} (h : DataW.trod enc Tryz.prog w base spare held fuel 3 cs = some x) : ∃ z : Int, cs = [.int .i64 z] ∧ I64 z := by
  obtain ⟨k, e1, z1, hw⟩ := DataW.trod_int Tryz.underlying3 h
  refine ⟨k, e1, ?_⟩
  simp [Lit.wf, IntKind.min, IntKind.max, IntKind.signed, IntKind.bits] at hw
  unfold I64
  omega
theorem open_strO {fuel : Nat} {cs : List Value} {x : DataW H × List MemPlace} (h : DataW.trod enc Tryz.prog W 0 (fun _ => true) true fuel 9 cs = some x) (hz : Rows.uptoBulk x.1 ≤ 1048576) : ∃ s : ByteArray, cs = [.string s] ∧ s.size ≤ 1048576 := by
  obtain ⟨s, rfl, rfl, -⟩ := DataW.trod_string Tryz.underlying9 h
  refine ⟨s, rfl, ?_⟩
  simp only [Rows.uptoBulk] at hz
  rw [dlen] at hz
  omega
theorem open_lO {fuel : Nat} {cs : List Value} {x : DataW H × List MemPlace} (h : DataW.trod enc Tryz.prog W 0 (fun _ => true) true fuel 50 cs = some x) (hz : Rows.uptoBulk x.1 ≤ 1048576) :
    ∃ (v : Value) (l : List Node), cs = [v] ∧ Rd W 3 v l.length (nodeCells l) ∧ (∀ x ∈ l, x.path.length ≤ 1048576 ∧ x.data.length ≤ 1048576) ∧ l.length ≤ 1048576 := by
  obtain ⟨v, l, h1, h2, h3, h4⟩ := open_list Tryz.underlying50 cellsNode (by omega) nodeC (fun a => rfl) (fun nd => nd.path.length ≤ 1048576 ∧ nd.data.length ≤ 1048576) 1 (fun fuel cs x h hw => by
    refine ⟨bulk_pos _, ?_⟩
    obtain ⟨nd, rfl, hd⟩ := open_node h
    refine ⟨nd, rfl, ?_⟩
    rw [hd] at hw
    simp only [Rows.uptoBulk, Rows.uptoBulkAll] at hw
    simp at hw
    omega) h hz
  exact ⟨v, l, h1, h2, h3, by omega⟩
theorem open_mO {fuel : Nat} {cs : List Value} {x : DataW H × List MemPlace} (h : DataW.trod enc Tryz.prog W 0 (fun _ => true) true fuel 26 cs = some x) (hz : Rows.uptoBulk x.1 ≤ 1048576) :
    ∃ (v : Value) (l : List (List UInt8)), cs = [v] ∧ Rd W 1 v l.length (svs l) ∧ (∀ a ∈ l, a.length ≤ 1048576) ∧ l.length ≤ 1048576 := by
  obtain ⟨v, l, h1, h2, h3, h4⟩ := open_list Tryz.underlying26 cellsStr (by omega) (fun s : List UInt8 => [sv s]) (fun a => rfl) (fun s => s.length ≤ 1048576) 1 (fun fuel cs x h hw => by
    refine ⟨bulk_pos _, ?_⟩
    obtain ⟨s, rfl, hd⟩ := open_strO h hw
    exact ⟨s.data.toList, rfl, by rw [dlen]; exact hd⟩) h hz
  refine ⟨v, l, h1, ?_, h3, by omega⟩
  have : svs l = l.flatMap fun s => [sv s] := by
    unfold svs
    exact List.map_eq_flatMap
  rw [this]
  exact h2
theorem open_dO {fuel : Nat} {cs : List Value} {x : DataW H × List MemPlace} (h : DataW.trod enc Tryz.prog W 0 (fun _ => true) true fuel 65 cs = some x) (hz : Rows.uptoBulk x.1 ≤ 1048576) :
    ∃ (v : Value) (l : List Int), cs = [v] ∧ Rd W 1 v l.length (dCells l) ∧ (∀ a ∈ l, I64 a) ∧ l.length ≤ 1048576 := by
  obtain ⟨v, l, h1, h2, h3, h4⟩ := open_list Tryz.underlying65 cellsIntO (by omega) (fun z : Int => [Value.int .i64 z]) (fun a => rfl) I64 1 (fun fuel cs x h hw => ⟨bulk_pos _, open_numO h⟩) h hz
  refine ⟨v, l, h1, ?_, h3, by omega⟩
  have : ∀ l : List Int, dCells l = l.flatMap fun z => [Value.int .i64 z] := by
    intro l
    unfold dCells
    induction l with
    | nil => rfl
    | cons a r ih => rw [List.map_cons, List.flatMap_cons, ih]; rfl
  rw [this]
  exact h2
instance : Inhabited OpV := ⟨⟨0, 0, 0, ⟨#[]⟩, ⟨#[]⟩, .slice none 0 0, .slice none 0 0, .slice none 0 0, [], [], []⟩⟩
set_option maxRecDepth 100000 in
theorem open_op {fuel : Nat} {cs : List Value} {x : DataW H × List MemPlace} (h : DataW.trod enc Tryz.prog W 0 (fun _ => true) true fuel 67 cs = some x) (hz : Rows.uptoBulk x.1 ≤ 1048576) : 9 ≤ Rows.uptoBulk x.1 ∧ ∃ o : OpV, cs = opC o ∧ OpAt W o := by
  obtain ⟨xs, n, rfl, rfl, hl, hxl, hf⟩ := DataW.trod_struct Tryz.underlying67 h
  rw [cellsOp] at hl
  obtain ⟨c0, c1, c2, c3, c4, c5, c6, c7, rfl⟩ : ∃ a b c d e f g h, cs = [a, b, c, d, e, f, g, h] := by
    match cs, hl with
    | [a, b, c, d, e, f, g, h], _ => exact ⟨a, b, c, d, e, f, g, h, rfl⟩
  obtain ⟨y0, y1, y2, y3, y4, y5, y6, y7, rfl⟩ : ∃ a b c d e f g h, xs = [a, b, c, d, e, f, g, h] := by
    have hxl : xs.length = 8 := hxl
    match xs, hxl with
    | [a, b, c, d, e, f, g, h], _ => exact ⟨a, b, c, d, e, f, g, h, rfl⟩
  have h0 := hf 0 _ rfl
  have h1 := hf 1 _ rfl
  have h2 := hf 2 _ rfl
  have h3 := hf 3 _ rfl
  have h4 := hf 4 _ rfl
  have h5 := hf 5 _ rfl
  have h6 := hf 6 _ rfl
  have h7 := hf 7 _ rfl
  clear hf
  simp only [Rows.uptoBulk, Rows.uptoBulkAll, List.map_cons, List.map_nil] at hz ⊢
  have p0 := bulk_pos y0.1
  have p1 := bulk_pos y1.1
  have p2 := bulk_pos y2.1
  have p3 := bulk_pos y3.1
  have p4 := bulk_pos y4.1
  have p5 := bulk_pos y5.1
  have p6 := bulk_pos y6.1
  have p7 := bulk_pos y7.1
  refine ⟨by omega, ?_⟩
  obtain ⟨k, e0, i0⟩ := open_numO (show DataW.trod enc Tryz.prog W 0 (fun _ => true) true n 3 [c0] = some y0 from h0)
  obtain ⟨a, e1, i1⟩ := open_numO (show DataW.trod enc Tryz.prog W 0 (fun _ => true) true n 3 [c1] = some y1 from h1)
  obtain ⟨c, e2, i2⟩ := open_numO (show DataW.trod enc Tryz.prog W 0 (fun _ => true) true n 3 [c2] = some y2 from h2)
  obtain ⟨s, e3, i3⟩ := open_strO (show DataW.trod enc Tryz.prog W 0 (fun _ => true) true n 9 [c3] = some y3 from h3) (by omega)
  obtain ⟨b, e4, i4⟩ := open_strO (show DataW.trod enc Tryz.prog W 0 (fun _ => true) true n 9 [c4] = some y4 from h4) (by omega)
  obtain ⟨vl, l, e5, r5, n5, l5⟩ := open_lO (show DataW.trod enc Tryz.prog W 0 (fun _ => true) true n 50 [c5] = some y5 from h5) (by omega)
  obtain ⟨vm, m, e6, r6, n6, l6⟩ := open_mO (show DataW.trod enc Tryz.prog W 0 (fun _ => true) true n 26 [c6] = some y6 from h6) (by omega)
  obtain ⟨vd, d, e7, r7, n7, l7⟩ := open_dO (show DataW.trod enc Tryz.prog W 0 (fun _ => true) true n 65 [c7] = some y7 from h7) (by omega)
  cases e0; cases e1; cases e2; cases e3; cases e4; cases e5; cases e6; cases e7
  exact ⟨⟨k, a, c, s, b, c5, c6, c7, l, m, d⟩, rfl, i0, i1, i2, i3, i4, r5, n5, l5, r6, n6, l6, r7, n7, l7⟩
set_option maxRecDepth 100000 in
/-- an argument []Op -/
theorem open_ops {base : Nat} {v : Value} {d : DataW H} {p : List MemPlace} (hv : Value.okWide Tryz.prog W .any base 22 v) (h : DataW.Trod enc Tryz.prog W 0 (fun _ => true) true 22 v d p) (hz : Rows.uptoBulk d ≤ 1048576) :
    ∃ l : List OpV, Rd W 8 v l.length (opsC l) ∧ (∀ o ∈ l, OpAt W o) ∧ l.length ≤ 200000 := by
  obtain ⟨a0, len, cap, rfl⟩ := okWide_slice Tryz.underlying22 hv
  obtain ⟨fuel, hf⟩ := h
  obtain ⟨v', l, h1, h2, h3, h4⟩ := open_list Tryz.underlying22 cellsOp (by omega) opC (fun a => rfl) (OpAt W) 9 (fun fuel cs x h hw => open_op h hw) (show DataW.trod enc Tryz.prog W 0 (fun _ => true) true fuel 22 [.slice a0 len cap] = some (d, p) from hf) hz
  cases h1
  exact ⟨l, h2, h3, by omega⟩
end
end Go.Proofs.YtdkogijdfgfpeaaGreatDoor
