/- Plain: where an import's error stands; an export that is cut short. -/
import Derived.Test.YtdkogijdfgfpeaaGreatDoorMImpC
import Derived.Test.YtdkogijdfgfpeaaGreatDoorMIImpV
import Derived.Test.YtdkogijdfgfpeaaGreatDoorMGet
set_option linter.unusedVariables false
namespace Go.Proofs.YtdkogijdfgfpeaaGreatDoor
open Go Go.RowKit
theorem fair_bad {α : Type} {g : α → RS} {n : Nat} {e : Int} {p : Nat} (he : e ≠ 0 ∧ e ≠ 2) (hp : p ≤ n) : Fair n g (.error (e, (p : Int))) := ⟨he.1, by simp, by simpa using hp, fun h => absurd h he.2⟩
theorem refErr_ne {x : CX} {s : List UInt8} (h : refErr x s ≠ 0) : refErr x s ≠ 0 ∧ refErr x s ≠ 2 := by
 refine ⟨h, ?_⟩
 unfold refErr
 split
 ·decide
 ·split <;> decide
theorem pathErr_ne {x : CX} {s : List UInt8} (h : pathErr x s ≠ 0) : pathErr x s ≠ 0 ∧ pathErr x s ≠ 2 := by
 refine ⟨h, ?_⟩
 unfold pathErr
 split
 ·decide
 ·split <;> decide
theorem entErr_ne {x : CX} {l : List Node} {s : List UInt8} (h : entErr x l s ≠ 0) : entErr x l s ≠ 0 ∧ entErr x l s ≠ 2 := by
 refine ⟨h, ?_⟩
 unfold entErr
 split
 ·decide
 ·split
  ·split <;> decide
  ·split <;> decide
theorem fair_refs : ∀ (f : Nat) (x : CX) (ρ : RS) {n : Nat}, ρ.at' + ρ.rest.length = n → Fair n Prod.snd (rRefsF f x ρ)
 | 0, x, ρ, n, h => h
 | f + 1, x, ρ, n, h => by
   unfold rRefsF
   refine fair_bind (fair_word _ ρ h) fun y hy => ?_
   split
   ·refine fair_bind (fair_next _ _ hy) fun z hz => ?_
    split
    ·rename_i he
     exact fair_bad (refErr_ne he) (by omega)
    ·exact fair_refs f _ _ hz
   ·exact hy
theorem fair_entry (x : CX) (ρ : RS) {n : Nat} (h : ρ.at' + ρ.rest.length = n) : Fair n Prod.snd (rEntry x ρ) := by
 unfold rEntry
 refine fair_bind (fair_next _ ρ h) fun y hy => ?_
 split
 ·rename_i he
  exact fair_bad (pathErr_ne he) (by omega)
 ·refine fair_bind (fair_word _ y.2.clear hy) fun z hz => fair_bind (fair_node 6 [] _ hz) fun ρ1 h1 => fair_bind (fair_word _ _ h1) fun v hv => fair_bind (fair_refs _ _ _ hv) fun xr hx => fair_bind (fair_next _ _ hx) fun t ht => ?_
  split
  ·rename_i he
   exact fair_bad (entErr_ne he) (by omega)
  ·exact ht
theorem fair_imp : ∀ (f : Nat) (x : CX) (ρ : RS) {n : Nat}, ρ.at' + ρ.rest.length = n → Fair n Prod.snd (rImpF f x ρ)
 | 0, x, ρ, n, h => h
 | f + 1, x, ρ, n, h => by
   unfold rImpF
   refine fair_bind (fair_word _ ρ h) fun y hy => ?_
   split
   ·exact fair_bind (fair_entry x _ hy) fun z hz => fair_imp f _ _ hz
   ·exact hy
theorem import_fair {has : Ents} {S : List UInt8} {e p : Int} (h : importL has S = .error (e, p)) : e ≠ 0 ∧ 0 ≤ p ∧ p ≤ S.length ∧ (e = 2 → p = S.length) := by
 have hf : Fair S.length (Prod.snd : CX × RS → RS) ((rWord [wExport] ⟨S, 0, []⟩).bind fun y => rImpF (S.length + 1) (startX has) y.2) :=
  fair_bind (fair_word _ ⟨S, 0, []⟩ (by simp)) fun y hy => fair_imp _ _ _ hy
 unfold importL at h
 cases hw : rWord [wExport] ⟨S, 0, []⟩ with
 | error x =>
   rw [hw] at h hf
   cases h
   exact hf
 | ok y =>
   rw [hw] at h hf
   simp only [Except.bind] at h hf
   cases hi : rImpF (S.length + 1) (startX has) y.2 with
   | error x =>
     rw [hi] at h hf
     cases h
     exact hf
   | ok xr =>
     rw [hi] at h hf
     simp only at h
     have h2 : xr.2.at' + xr.2.rest.length = S.length := hf
     split at h
     ·cases h
     ·cases h
      exact ⟨by decide, by omega, by omega, fun e => by omega⟩
theorem toldX_zero {σ : PSt} {x : CX} (h : toldX (told σ) = .ok x) : σ.err = 0 := by
 unfold told at h
 split at h
 ·assumption
 ·cases h
theorem run_twice (js : List Job) (σ : PSt) (hd : σ.Dry) : run (run js σ).1 (run js σ).2 = run js σ := by
 have := (run_feed _ js σ [] (Nat.le_refl _) hd).1
 rw [feed_nil, feed_nil] at this
 exact this.symm
theorem import_short {has : Ents} {S T : List UInt8} {x : CX} (h : importL has (S ++ T) = .ok x) (hT : T ≠ []) : importL has S = .error (2, (S.length : Int)) := by
 have hdry : PSt.Dry ((freshX has).feed S) := PSt.Dry.feed (fun h => absurd rfl h) S
 have hfull := outcome_import has (S ++ T)
 rw [h, ← PSt.feed_feed, outcome, (run_feed _ importJobs ((freshX has).feed S) T (Nat.le_refl _) hdry).1] at hfull
 have hpart := outcome_import has S
 rw [outcome] at hpart
 have htw := run_twice importJobs ((freshX has).feed S) hdry
 have hdr := run_dry importJobs ((freshX has).feed S) hdry
 generalize run importJobs ((freshX has).feed S) = y at *
 obtain ⟨js, σ⟩ := y
 simp only at hfull hpart htw hdr
 have he : σ.err = 0 := by
  refine Classical.byContradiction fun hb => ?_
  rw [PSt.feed_bad hb, run_bad hb hdr] at hfull
  have h0 := toldX_zero hfull
  unfold finish at h0
  simp only at h0
  split at h0
  ·exact hb h0
  ·rw [PSt.fail_bad hb] at h0; exact hb h0
 have hjs : js ≠ [] := by
  rintro rfl
  rw [run_nil] at htw
  have hr : σ.rest = [] := by
   refine Classical.byContradiction fun hb => ?_
   rw [if_neg hb, PSt.fail_ok he] at htw
   have h1 := congrArg (fun x : List Job × PSt => x.2.err) htw
   simp only at h1
   rw [he] at h1
   exact absurd h1 (by decide)
  rw [PSt.feed_ok he, hr, run_nil, if_neg (by simpa using hT), PSt.fail_ok (by exact he)] at hfull
  have h0 := toldX_zero hfull
  exact absurd h0 (by show (10 : Int) ≠ 0; decide)
 have h2 : importL has S = .error (2, (σ.at' : Int) + (σ.rest.length : Int)) := by
  rw [← hpart, finish, if_neg hjs, PSt.fail_ok he, told, if_neg (by show (2 : Int) ≠ 0; decide)]
  rfl
 rw [h2, (import_fair h2).2.2.2 rfl]
theorem expL_nil : (expL []).length = 32 := by decide
theorem expL_more {es : Ents} (h : es ≠ []) : 32 < (expL es).length := by
 cases es with
 | nil => exact absurd rfl h
 | cons e r =>
   have h1 := putL_length wPath
   have h2 : 0 < (expEnt e).length := by
    unfold expEnt
    rw [List.length_append]
    omega
   have h3 : (expL []).length = (putL wExport).length + (putL wEnd).length := by simp [expL]
   have h4 : (expL (e :: r)).length = (putL wExport).length + ((expEnt e).length + (r.flatMap expEnt).length + (putL wEnd).length) := by
    unfold expL
    rw [List.flatMap_cons, List.length_append, List.length_append, List.length_append]
   have h5 := expL_nil
   omega
theorem spoilt_ok {S : List UInt8} {x : CX} (h : importL [] S = .ok x) (h32 : 32 < S.length) :
 ∃ L', Moved0 x.came L' ∧ commitL [] x.came = (L', x.came.map Ent.path) ∧ x.came ≠ [] ∧ (∀ r ∈ x.came.map Ent.path, (findE L' r).isSome = true) ∧ ∀ K', ReachOf L' (x.came.map Ent.path) K' → (expL (entsOf L' (closL L' K'))).length = S.length := by
 obtain ⟨hX, h1, hS⟩ := import_sound h (by refine ⟨List.Pairwise.nil, by simp, ?_, ?_⟩ <;> (intro e he; cases he))
 obtain ⟨m1, m2⟩ := moved_start hX h1
 refine ⟨_, m1, Prod.ext rfl m2, fun e => ?_, fun r hr => ?_, fun K' hK => ?_⟩
 ·rw [hS, e, expL_nil] at h32
  omega
 ·obtain ⟨e, he, rfl⟩ := List.mem_map.1 hr
  exact findE_isSome.2 ⟨e, (m1.mem e).2 he, rfl⟩
 ·rw [moved_bytes (ExOk.ofX hX h1) m1 hK, ← hS]
theorem spoilt_short {L : Ents} {K : List (List UInt8)} (hok : StoreOk L) {k : Nat} (hk : k < (expL (entsOf L (closL L K))).length) : importL [] ((expL (entsOf L (closL L K))).take k) = .error (2, (k : Int)) := by
 obtain ⟨L', -, x, hx, -⟩ := imp_first (K := K) (rk := fun _ => 0) hok
 have h1 := import_short (S := (expL (entsOf L (closL L K))).take k) (T := (expL (entsOf L (closL L K))).drop k) (by rw [List.take_append_drop]; exact hx) (fun e => by
  have := congrArg List.length e
  simp at this
  omega)
 rw [h1, List.length_take, Nat.min_eq_left (by omega)]
theorem spoilt_has {L : Ents} {K : List (List UInt8)} (hok : StoreOk L) {e o : Ent} (he : e ∈ L) (hek : e.path ∈ closL L K) (hp : o.path = e.path) (hne : packP o.tree ≠ packP e.tree) : ∃ p : Nat, importL [o] (expL (entsOf L (closL L K))) = .error (12, (p : Int)) := by
 have hT := closL_told L K
 have hE := ExOk.told hok hT
 have hm : e ∈ entsOf L (closL L K) := List.mem_filterMap.2 ⟨e.path, hek, findE_mem hok he⟩
 have hlen := Nat.le_trans (entsOf_len L (closL L K)) (clos_ten hok K)
 obtain ⟨a, b, hab⟩ := List.append_of_mem hm
 rw [hab] at hE hlen ⊢
 obtain ⟨g1, g2, g3, g4⟩ := hE.good e (by simp)
 have hna : ∀ q ∈ a, q.path ≠ e.path := fun q hq => (List.pairwise_append.1 hE.once).2.2 q hq e (List.mem_cons_self ..)
 have hea : ExOk a := by
  refine ⟨(List.pairwise_append.1 hE.once).1, fun q hq => hE.good q (by simp [hq]), fun a1 q b1 h1 r hr => hE.ahead a1 q (b1 ++ e :: b) (by rw [h1]; simp) r hr⟩
 have hfo : ∀ q ∈ a, findE [o] q.path = none := fun q hq => findE_none.2 fun y hy e2 => by
  rw [List.mem_singleton.1 hy] at e2
  exact hna q hq (e2.symm.trans hp)
 refine import_has (o := o) ?_ g1 (findE_none.2 hna) g2 g3 (fun r hr => ⟨g4 r hr, ?_⟩) ?_ ?_
 ·refine hea.comes (fun q hq y hy => by rw [hfo q hq] at hy; cases hy) ?_
  have h1 : a.countP (fun q => (findE [o] q.path).isNone) ≤ a.length := List.countP_le_length
  simp only [List.length_append, List.length_cons, List.length_nil] at hlen ⊢
  omega
 ·rcases hE.ahead a e b rfl r hr with h1 | ⟨q, hq, rfl⟩
  ·exact .inl h1
  ·exact .inr (.inr (findE_isSome.2 ⟨q, hq, rfl⟩))
 ·simp [findE, hp]
 ·unfold sameE
  rw [beq_eq_false_iff_ne.2 hne]
  rfl
theorem pack_inj {a b : List Node} (ha : wrongL a = -1) (hb : wrongL b = -1) (h : packP a = packP b) : a = b := by
 have h1 := read_pack ha
 rw [h, read_pack hb] at h1
 exact (Prod.ext_iff.1 h1).1.symm
structure SpoRes (n : Nat) (OUT : List (List UInt8)) (er at' : Int) (L2 : Ents) : Prop where
 bad : er ≠ 0 → OUT = [] ∧ L2 = [] ∧ 0 ≤ at' ∧ at' ≤ n
 good : er = 0 → OUT ≠ [] ∧ (∀ r ∈ OUT, (findE L2 r).isSome = true) ∧ (∀ K', ReachOf L2 OUT K' → (expL (entsOf L2 (closL L2 K'))).length = n) ∧ OUT.length ≤ 10
structure ImpV (w : World) (F : Nat → Prop) (s : Nat) (OUT : List (List UInt8)) (L2 : Ents) (v : Value) (w' : World) : Prop where
 sl : Sl w' w.heap.size 9 1 v OUT.length (svs OUT)
 st : ∃ F', StoreAt w' F' s L2 ∧ (∀ k, F' k → F k ∨ (w.heap.size ≤ k ∧ k < w'.heap.size)) ∧ ∀ k, v.ownBlock = some k → ¬ F' k
 kp : Keeps F w w'
theorem spoilt_sum (S : List UInt8) (h32 : 32 < S.length) : ∃ OUT er at' L2, SpoRes S.length OUT er at' L2 ∧ ∀ (w : World) (F : Nat → Prop) (s : Nat) (ed : Ending) (w' : World), StoreAt w F s [] → ImpPost w F s [] S ed w' →
 ∃ a c, ed = .returned (.tuple #[.slice a OUT.length c, .int .i64 er, .int .i64 at']) ∧ ImpV w F s OUT L2 (.slice a OUT.length c) w' := by
 cases hi : importL [] S with
 | error e =>
   obtain ⟨er, at'⟩ := e
   obtain ⟨g1, g2, g3, -⟩ := import_fair hi
   refine ⟨[], er, at', [], ⟨fun _ => ⟨rfl, rfl, g2, g3⟩, fun h => absurd h g1⟩, fun w F s ed w' hs hp => ?_⟩
   unfold ImpPost at hp
   rw [hi] at hp
   obtain ⟨rfl, hk⟩ := hp
   exact ⟨none, 0, rfl, Sl.nil _ _ _ _, ⟨F, hs.non hk, fun _ h => .inl h, fun k hk => by cases hk⟩, hk.mono fun _ _ h => h.elim⟩
 | ok x =>
   obtain ⟨L', m1, m2, m3, m4, m5⟩ := spoilt_ok hi h32
   refine ⟨x.came.map Ent.path, 0, 0, L', ⟨fun h => absurd rfl h, fun _ => ⟨by simpa using m3, m4, m5, by rw [List.length_map, ← m1.len]; exact m1.ok.ten⟩⟩, fun w F s ed w' hs hp => ?_⟩
   unfold ImpPost at hp
   rw [hi] at hp
   obtain ⟨v, rfl, h1, h2, h3⟩ := hp
   rw [m2] at h1 h2
   obtain ⟨a, c, rfl, -, -⟩ := h1.shape
   exact ⟨a, c, rfl, h1, h2, h3⟩
theorem ImpV.before {w w0 w' : World} {F : Nat → Prop} {s : Nat} {OUT : List (List UInt8)} {L2 : Ents} {v : Value} (h : ImpV w0 F s OUT L2 v w') (k : Keeps Non w w0) : ImpV w F s OUT L2 v w' := by
 obtain ⟨h1, ⟨F', h2, h3, h5⟩, h4⟩ := h
 have := k.size
 exact ⟨h1.mono this, ⟨F', h2, fun j hj => (h3 j hj).imp id fun h => ⟨by omega, h.2⟩, h5⟩, (k.mono fun _ _ h => h.elim).trans h4 fun _ h => .inl h⟩
theorem ImpV.after {w w1 w' : World} {F : Nat → Prop} {s : Nat} {OUT : List (List UInt8)} {L2 : Ents} {v : Value} (h : ImpV w F s OUT L2 v w1) (k : Keeps Non w1 w') : ImpV w F s OUT L2 v w' := by
 obtain ⟨h1, ⟨F', h2, h3, h5⟩, h4⟩ := h
 have := k.size
 exact ⟨h1.non k, ⟨F', h2.non k, fun j hj => (h3 j hj).imp id fun h => ⟨h.1, by omega⟩, h5⟩, h4.trans k fun _ h => h.elim⟩
abbrev anA : ByteArray := ⟨#[97, 110, 111, 116, 104, 101, 114, 44, 32, 108, 111, 110, 103, 101, 114, 32, 116, 104, 97, 110, 32, 97, 108, 108, 32, 111, 102, 32, 116, 104, 101, 115, 101, 32, 97, 114, 101]⟩
def anN : Node := ⟨[], 1, anA.data.toList⟩
def anE : Ent := ⟨nm (fb 0), [anN], []⟩
theorem an_small : NodesSmall [anN] := by
 intro n hn
 rw [List.mem_singleton.1 hn]
 exact ⟨by decide, by decide⟩
theorem an_wrong : wrongL [anN] = -1 := by decide +kernel
theorem an_path : pathB (nm (fb 0)) = true := by decide +kernel
theorem an_ins : insE [] (nm (fb 0)) [anN] [] = (0, [anE]) := by
 unfold insE
 rw [an_path, an_wrong]
 rfl
theorem an_has {L : Ents} {K : List (List UInt8)} (hok : StoreOk L) {e : Ent} (he : e ∈ L) (hp : e.path = nm (fb 0)) (hek : e.path ∈ closL L K) (hg : TreeG e.tree) : ∃ p : Nat, importL [anE] (expL (entsOf L (closL L K))) = .error (12, (p : Int)) :=
 spoilt_has hok he hek hp.symm fun h => hg anA.data.toList (by decide) (pack_inj an_wrong (hok.good e he).2.1 h).symm
def FBlk (w : World) (b : Nat) (l : List UInt8) : Prop := ∃ (c : Array Value) (k : Nat), w.heap[b]? = some (.cells c 5 (k, k + 1)) ∧ l.length ≤ k ∧ ∀ i, i < l.length → c[i]? = (bvs l)[i]?
section
variable {w w' : World} {b : Nat} {l : List UInt8}
theorem FBlk.new (w : World) (s : List UInt8) (cap : Nat) : FBlk (w.drew.alloc (.cells (bytesRow ⟨s.toArray⟩ cap) 5 ((bytesRow ⟨s.toArray⟩ cap).size, (bytesRow ⟨s.toArray⟩ cap).size + 1))) w.heap.size s := by
 refine ⟨_, _, heap_alloc_new w.drew _, by simp [bytesRow], fun i hi => ?_⟩
 unfold bytesRow
 rw [Array.getElem?_append_left (by simpa using hi)]
 simp [bvs]
 rfl
theorem FBlk.lt (h : FBlk w b l) : b < w.heap.size := by
 obtain ⟨c, k, h1, -, -⟩ := h
 rcases Nat.lt_or_ge b w.heap.size with h' | h'
 ·exact h'
 ·rw [Array.getElem?_eq_none h'] at h1; cases h1
theorem FBlk.keeps {S : Nat → Prop} (h : FBlk w b l) (k : Keeps S w w') (hn : ¬ S b) : FBlk w' b l := by
 have hlt := h.lt
 obtain ⟨c, j, h1, h2, h3⟩ := h
 exact ⟨c, j, (k.block b hlt hn).trans h1, h2, h3⟩
theorem FBlk.cell (h : FBlk w b l) {i : Nat} (hi : i < l.length) : w.cell? ⟨b, i, none⟩ = some (.int .u8 l[i].toNat) := by
 obtain ⟨c, k, h1, h2, h3⟩ := h
 have : w.cell? ⟨b, i, none⟩ = c[i]? := by simp [World.cell?, h1]
 rw [this, h3 i hi]
 simp [bvs, bv, List.getElem?_eq_getElem hi]
theorem FBlk.free (h : FBlk w b l) {i : Nat} (hi : i < l.length) : w.frozen? ⟨b, i, none⟩ = false := by
 obtain ⟨c, k, h1, h2, h3⟩ := h
 simp [World.frozen?, h1]
 omega
theorem FBlk.set (h : FBlk w b l) (i : Nat) (x : UInt8) : FBlk (w.setCell ⟨b, i, none⟩ (.int .u8 x.toNat)) b (l.set i x) := by
 obtain ⟨c, k, h1, h2, h3⟩ := h
 refine ⟨c.setIfInBounds i (.int .u8 x.toNat), k, by simp [World.setCell, Array.getElem?_modify, h1], by simpa using h2, fun j hj => ?_⟩
 rw [List.length_set] at hj
 have h4 := h3 j hj
 have hcj : j < c.size := by
  rcases Nat.lt_or_ge j c.size with h' | h'
  ·exact h'
  ·rw [Array.getElem?_eq_none h'] at h4
   simp [bvs, List.getElem?_eq_getElem hj] at h4
 have e1 : bvs (l.set i x) = (bvs l).set i (bv x) := by simp [bvs, List.map_set]
 rw [e1, List.getElem?_set, Array.getElem?_setIfInBounds]
 by_cases hij : i = j
 ·subst hij
  rw [if_pos rfl, if_pos rfl, if_pos hcj, if_pos (by simpa [bvs] using hj)]
  rfl
 ·rw [if_neg hij, if_neg hij, h4]
theorem FBlk.str (h : FBlk w b l) (cap : Nat) : (convert 45 9 (.slice (some ⟨b, 0, none⟩) l.length cap)).run Tryz.prog w = .ok (.string ⟨l.toArray⟩) w := by
 rw [run_convert_bytes_arg w 45 5 Tryz.underlying45 Tryz.underlying5 b 0 l.length cap (l.map fun b => (b.toNat : Int)) (by simp) (fun i hi => by
  rw [Nat.zero_add, h.cell hi]
  simp [List.getElem?_eq_getElem hi]) 9 Tryz.underlying9, strOfNums_bytes]
end
theorem u8_byte (z : Int) : ∃ x : UInt8, IntKind.u8.wrap z = (x.toNat : Int) := by
 refine ⟨UInt8.ofNat (IntKind.u8.wrap z).toNat, ?_⟩
 have h : IntKind.u8.wrap z = z % 256 := by simp [IntKind.wrap]; try rfl
 rw [h]
 have h1 : 0 ≤ z % 256 := Int.emod_nonneg _ (by decide)
 have h2 : z % 256 < 256 := Int.emod_lt_of_pos _ (by decide)
 rw [UInt8.toNat_ofNat']
 omega
end Go.Proofs.YtdkogijdfgfpeaaGreatDoor
