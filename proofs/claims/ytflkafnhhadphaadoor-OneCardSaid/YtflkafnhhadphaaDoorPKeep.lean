/- (*tree.Parser).file's closures; a word's closure. -/
import Derived.Test.YtflkafnhhadphaaDoorChecked
import Derived.Test.YtflkafnhhadphaaDoorPDir
import Derived.Test.YtflkafnhhadphaaDoorPName
import Derived.Deep.RegionHeld3
namespace Go.Proofs.YtflkafnhhadphaaDoor
open Go Go.RowKit
set_option linter.unusedVariables false

set_option maxHeartbeats 800000 in
set_option maxRecDepth 100000 in
theorem keep_any {B b : Nat} {tail : List Value} {ts : List (Job × Value)} {σ : PSt} {w : World} (h : PA B b tail ts σ w) (s : ByteArray) (p k : Int) (bp bk : Nat) (hbp : Blk w bp #[.pointer (some ⟨b, 0, none⟩)] 89) (hbk : Blk w bk #[.int .i64 k] 32) (hl : σ.nodes.length ≤ 1099511627776) :
    Calls Tryd.prog 88 #[.string s, .int .i64 p, .pointer (some ⟨bp, 0, none⟩), .pointer (some ⟨bk, 0, none⟩)] w (Did B b tail ts (doJob (.keep k) s.data.toList p σ) w) := by
  have c0 : w.cell? ⟨bp, 0, none⟩ = some (.pointer (some ⟨b, 0, none⟩)) := hbp.cell 0
  have c1 : w.cell? ⟨bk, 0, none⟩ = some (.int .i64 k) := hbk.cell 0
  have H0 := Lib.hid h
  clear h hbp hbk
  go_enter Tryd.func88, Tryd.ntmps88
  go_wp2_with fail
  refine (add_any H0.out k s hl).mono ?_
  rintro e w1 ⟨rfl, h1, k1⟩
  go_wp2_with fail
  go_end0
  exact Did.plain rfl rfl h1 k1 (by simp)

def KeepPost (w : World) (b : Nat) (k : Int) (ed : Ending) (w' : World) : Prop := ∃ f, ed = .returned (.agg #[.int .i64 100, f]) ∧ JobAt w' b (.keep k) f ∧ Keeps Non w w'
set_option maxHeartbeats 800000 in
set_option maxRecDepth 100000 in
theorem keepw_any (b : Nat) (k : Int) (bp : Nat) (w : World) (hbp : Blk w bp #[.pointer (some ⟨b, 0, none⟩)] 89) :
    Calls Tryd.prog 87 #[.int .i64 k, .pointer (some ⟨bp, 0, none⟩)] w (KeepPost w b k) := by
  have hb1 := (hbp.alloc (.cells #[.int .i64 k] 32)).alloc (.cells #[.int .i64 0, .nilFunc] 93)
  have hb2 := (Blk.new w #[.int .i64 k] 32).alloc (.cells #[.int .i64 0, .nilFunc] 93)
  have hb3 := Blk.new (w.alloc (.cells #[.int .i64 k] 32)) #[.int .i64 0, .nilFunc] 93
  rw [World.size_alloc] at hb3
  have hk0 : Keeps Non w ((w.alloc (.cells #[.int .i64 k] 32)).alloc (.cells #[.int .i64 0, .nilFunc] 93)) := ((Keeps.refl _ _).alloc _).alloc _
  clear hbp
  go_enter Tryd.func87, Tryd.ntmps87
  go_upto_region 1 with (fail)
  generalize hw1 : (w.alloc (.cells #[.int .i64 k] 32)).alloc (.cells #[.int .i64 0, .nilFunc] 93) = w1 at *
  have HK0 := Lib.hid hk0
  have HB1 := Lib.hid hb1
  have HB2 := Lib.hid hb2
  have HB3 := Lib.hid hb3
  have c0 : w1.cell? ⟨bp, 0, none⟩ = some (.pointer (some ⟨b, 0, none⟩)) := hb1.cell 0
  clear hw1 hk0 hb1 hb2 hb3
  generalize hz : w.heap.size = z at HB2 HB3 ⊢
  have HZ := Lib.hid hz
  clear hz
  go_wp2_with fail
  refine (text_any b 100 (.func (.func 88) #[] #[.pointer (some ⟨bp, 0, none⟩), .pointer (some ⟨z, 0, none⟩)]) rfl ⟨_, _, _, rfl⟩ _).mono ?_
  rintro e w2 ⟨rfl, hk2⟩
  have B1 := Lib.hid (HB1.out.keeps hk2 (fun h => h))
  have B2 := Lib.hid (HB2.out.keeps hk2 (fun h => h))
  have b3 := HB3.out.keeps hk2 (fun h => h)
  have K2 := Lib.hid (HK0.out.trans hk2 (fun k hk => .inl hk))
  have d0 : w2.cell? ⟨z + 1, 0, none⟩ = some (.int .i64 0) := b3.cell 0
  have d1 : w2.cell? ⟨z + 1, 1, none⟩ = some .nilFunc := b3.cell 1
  have g0 := b3.free 0
  have g1 := b3.free 1
  have B3 := Lib.hid b3
  clear hk2 b3 HB1 HB2 HB3 HK0
  go_wp2_with fail
  have b4 := (B3.out.set 0 (.int .i64 100)).set 1 (.func (.func 88) #[] #[.pointer (some ⟨bp, 0, none⟩), .pointer (some ⟨z, 0, none⟩)])
  have k4 := ((Keeps.refl Non w).trans K2.out (fun k hk => .inl hk)).setCell ⟨z + 1, 0, none⟩ (.int .i64 100) (.inr (by rw [HZ.out]; exact Nat.le_succ z)) |>.setCell ⟨z + 1, 1, none⟩ (.func (.func 88) #[] #[.pointer (some ⟨bp, 0, none⟩), .pointer (some ⟨z, 0, none⟩)]) (.inr (by rw [HZ.out]; exact Nat.le_succ z))
  have b1 := (B1.out.set_ne ⟨z + 1, 0, none⟩ (.int .i64 100) (fun e => absurd (B1.out.inj (by rw [show bp = z + 1 from e]; exact B3.out)).2 (by decide))).set_ne ⟨z + 1, 1, none⟩ (.func (.func 88) #[] #[.pointer (some ⟨bp, 0, none⟩), .pointer (some ⟨z, 0, none⟩)]) (fun e => absurd (B1.out.inj (by rw [show bp = z + 1 from e]; exact B3.out)).2 (by decide))
  have b2 := (B2.out.set_ne ⟨z + 1, 0, none⟩ (.int .i64 100) (by simp)).set_ne ⟨z + 1, 1, none⟩ (.func (.func 88) #[] #[.pointer (some ⟨bp, 0, none⟩), .pointer (some ⟨z, 0, none⟩)]) (by simp)
  generalize (w2.setCell ⟨z + 1, 0, none⟩ (.int .i64 100)).setCell ⟨z + 1, 1, none⟩ (.func (.func 88) #[] #[.pointer (some ⟨bp, 0, none⟩), .pointer (some ⟨z, 0, none⟩)]) = w3 at *
  have e0 : w3.cell? ⟨z + 1, 0, none⟩ = some (.int .i64 100) := b4.cell 0
  have e1 : w3.cell? ⟨z + 1, 1, none⟩ = some (.func (.func 88) #[] #[.pointer (some ⟨bp, 0, none⟩), .pointer (some ⟨z, 0, none⟩)]) := b4.cell 1
  refine bodyPost_ret (v := .agg #[.int .i64 100, .func (.func 88) #[] #[.pointer (some ⟨bp, 0, none⟩), .pointer (some ⟨z, 0, none⟩)]]) (by simp [results, Tryd.results87, go_sem, e0, e1]) rfl ?_
  exact ⟨_, rfl, ⟨bp, z, rfl, b1, b2⟩, k4⟩
end Go.Proofs.YtflkafnhhadphaaDoor
