/- Plain: bytes that are imported are the bytes of the entries that came; what these keep. -/
import Derived.Test.YtdkogijdfgfpeaaGreatDoorMRead
import Derived.Test.YtdkogijdfgfpeaaGreatDoorMShapeR
import Derived.Test.YtdkogijdfgfpeaaGreatDoorMMem
import Derived.Deep.RegionLaw
set_option linter.unusedVariables false
namespace Go.Proofs.YtdkogijdfgfpeaaGreatDoor
open Go Go.RowKit
def refsL (l : List (List UInt8)) : List UInt8 := l.flatMap fun r => putL wRef ++ putL r
def expEnt (e : Ent) : List UInt8 := putL wPath ++ (putL e.path ++ (packP e.tree ++ (putL wRefs ++ (refsL e.refs ++ (putL wSum ++ putL (sumOf (packP e.tree)).data.toList)))))
def expL (es : Ents) : List UInt8 := putL wExport ++ (es.flatMap expEnt ++ putL wEnd)
theorem rising_snoc : ∀ {l : List (List UInt8)} {s : List UInt8}, risingB l = true → risesB l s = true → risingB (l ++ [s]) = true
 | [], s, _, _ => rfl
 | [a], s, _, h2 => by
   show (Op.bytesLess a s && risingB [s]) = true
   have h3 : Op.bytesLess a s = true := h2
   rw [h3]; rfl
 | a :: b :: r, s, h1, h2 => by
   have h3 : (Op.bytesLess a b && risingB (b :: r)) = true := h1
   rw [Bool.and_eq_true] at h3
   show (Op.bytesLess a b && risingB (b :: r ++ [s])) = true
   rw [Bool.and_eq_true]
   refine ⟨h3.1, rising_snoc h3.2 ?_⟩
   simpa [risesB] using h2
theorem refErr_zero {x : CX} {s : List UInt8} (h : refErr x s = 0) : risesB x.refs s = true ∧ (s = x.name ∨ (findE x.has s).isSome = true ∨ (findE x.came s).isSome = true) := by
 unfold refErr at h
 split at h
 ·cases h
 ·rename_i h1
  refine ⟨by simpa using h1, ?_⟩
  split at h
  ·cases h
  ·rename_i h2
   by_cases e1 : s = x.name
   ·exact .inl e1
   ·right
    cases h3 : findE x.has s with
    | some _ => exact .inl rfl
    | none =>
      cases h4 : findE x.came s with
      | some _ => exact .inr rfl
      | none => exact absurd ⟨e1, h3, h4⟩ h2
theorem refs_sound : ∀ (f : Nat) (x : CX) (ρ : RS) (xr : CX × RS), rRefsF f x ρ = .ok xr → ρ.rest.length < f → risingB x.refs = true →
 ∃ more, xr.1 = { x with refs := x.refs ++ more } ∧ ρ.rest = refsL more ++ (putL wSum ++ xr.2.rest) ∧ xr.2.nodes = ρ.nodes ∧ risingB (x.refs ++ more) = true ∧ ∀ r ∈ more, r.length ≤ 12 ∧ (r = x.name ∨ (findE x.has r).isSome = true ∨ (findE x.came r).isSome = true)
 | 0, _, _, _, _, h, _ => absurd h (by omega)
 | f + 1, x, ρ, xr, h, hf, hr => by
   unfold rRefsF at h
   obtain ⟨y, h1, h⟩ := bind_ok h
   obtain ⟨r1, m1, n1, -⟩ := rWord_put h1
   have ly := rWord_le h1
   split at h
   ·rename_i hy
    obtain ⟨z, h2, h⟩ := bind_ok h
    obtain ⟨r2, l2, n2, -⟩ := rNext_put h2
    have lz := rNext_le h2
    split at h
    ·cases h
    ·rename_i he
     have he0 : refErr x z.1 = 0 := by simpa using he
     obtain ⟨e1, e2⟩ := refErr_zero he0
     obtain ⟨more, g1, g2, g3, g4, g5⟩ := refs_sound f { x with refs := x.refs ++ [z.1] } z.2 xr h (by omega) (rising_snoc hr e1)
     refine ⟨z.1 :: more, by rw [g1]; simp, ?_, by rw [g3, n2, n1], by simpa using g4, fun r hr => ?_⟩
     ·rw [r1, hy, r2, g2]
      simp [refsL]
     ·rcases List.mem_cons.1 hr with rfl | hr
      ·exact ⟨l2, e2⟩
      ·exact g5 r hr
   ·rename_i hy
    cases h
    have hy2 : y.1 = wSum := by
     simp only [List.mem_cons, List.not_mem_nil, or_false] at m1
     exact m1.resolve_left hy
    refine ⟨[], by simp, ?_, n1, by simpa using hr, by simp⟩
    rw [r1, hy2]
    simp [refsL]
structure EntOk (x : CX) (e : Ent) : Prop where
 path : pathB e.path = true
 new : findE x.came e.path = none
 wrong : wrongL e.tree = -1
 rise : risingB e.refs = true
 known : ∀ r ∈ e.refs, r = e.path ∨ (findE x.has r).isSome = true ∨ (findE x.came r).isSome = true
 short : ∀ r ∈ e.refs, r.length ≤ 12
 same : ∀ o, findE x.has e.path = some o → sameE o e = true
 room : findE x.has e.path = none → x.has.length + freshN x ≠ 10
theorem setE_new {L : Ents} {e : Ent} (h : findE L e.path = none) : setE L e = L ++ [e] := by
 unfold setE
 rw [List.filter_eq_self.2 fun o ho => by
  have := findE_none.1 h o ho
  simpa using this]
theorem pathErr_zero {x : CX} {s : List UInt8} (h : pathErr x s = 0) : pathB s = true ∧ findE x.came s = none := by
 unfold pathErr at h
 split at h
 ·cases h
 ·rename_i h1
  split at h
  ·cases h
  ·rename_i h2
   exact ⟨by simpa using h1, by
    cases h3 : findE x.came s with
    | none => rfl
    | some _ => rw [h3] at h2; exact absurd rfl h2⟩
theorem entErr_zero {x : CX} {l : List Node} {s : List UInt8} (h : entErr x l s = 0) : s = (sumOf (packP l)).data.toList ∧ (∀ o, findE x.has x.name = some o → sameE o (x.ent l) = true) ∧ (findE x.has x.name = none → x.has.length + freshN x ≠ 10) := by
 unfold entErr at h
 split at h
 ·cases h
 ·rename_i h1
  refine ⟨Classical.byContradiction h1, ?_⟩
  cases hf : findE x.has x.name with
  | some o =>
    rw [hf] at h
    simp only at h
    refine ⟨fun o' ho => ?_, fun e => nomatch e⟩
    cases ho
    cases hs : sameE o (x.ent l) with
    | true => rfl
    | false => rw [hs] at h; exact absurd h (by decide)
  | none =>
    rw [hf] at h
    simp only at h
    refine ⟨fun o' ho => (nomatch ho), fun _ h10 => ?_⟩
    rw [if_pos h10] at h
    cases h
theorem entry_sound {x : CX} {ρ : RS} {xr : CX × RS} (h : rEntry x ρ = .ok xr) :
 ∃ e, EntOk x e ∧ xr.1 = { x with name := e.path, refs := e.refs, came := x.came ++ [e], order := x.order ++ [e.path] } ∧ putL wPath ++ ρ.rest = expEnt e ++ xr.2.rest := by
 unfold rEntry at h
 obtain ⟨y, h1, h⟩ := bind_ok h
 obtain ⟨r1, l1, n1, -⟩ := rNext_put h1
 split at h
 ·cases h
 rename_i he
 obtain ⟨p1, p2⟩ := pathErr_zero (by simpa using he)
 obtain ⟨z, h2, h⟩ := bind_ok h
 obtain ⟨r2, m2, n2, -⟩ := rWord_put h2
 obtain ⟨ρ1, h3, h⟩ := bind_ok h
 obtain ⟨d, nd, r, hd, hv, r3, n3, l3⟩ := sound_node 6 _ _ _ h3 (by rw [n2]; simp [RS.clear])
 obtain rfl : d = 5 := by omega
 have hn3 : ρ1.nodes = nd :: r := by rw [n3, n2]; simp [RS.clear]
 obtain ⟨v, h4, h⟩ := bind_ok h
 obtain ⟨r4, m4, n4, -⟩ := rWord_put h4
 obtain ⟨w, h5, h⟩ := bind_ok h
 obtain ⟨more, g1, g2, g3, g4, g5⟩ := refs_sound _ _ _ _ h5 (by omega) rfl
 obtain ⟨t, h6, h⟩ := bind_ok h
 obtain ⟨r6, l6, n6, -⟩ := rNext_put h6
 have htn : t.2.nodes = nd :: r := by rw [n6, g3, n4, hn3]
 split at h
 ·cases h
 rename_i he2
 cases h
 have hw := wrong_of_VN hv (by rw [← hn3]; exact l3)
 obtain ⟨s1, s2, s3⟩ := entErr_zero (by simpa using he2)
 rw [htn] at s1 s2
 have hx1 : w.1 = { x with name := y.1, refs := more } := by rw [g1]; simp [CX.start]
 have hent : w.1.ent (nd :: r) = ⟨y.1, nd :: r, more⟩ := by rw [hx1]; rfl
 rw [hx1] at s2 s3
 simp only [List.mem_singleton] at m2 m4
 refine ⟨⟨y.1, nd :: r, more⟩, ⟨p1, p2, hw, g4, fun q hq => (g5 q hq).2, fun q hq => (g5 q hq).1, s2, s3⟩, ?_, ?_⟩
 ·show w.1.put t.2.nodes = _
  rw [htn]
  unfold CX.put
  rw [hent, hx1]
  simp only
  rw [setE_new (show findE x.came (⟨y.1, nd :: r, more⟩ : Ent).path = none from p2)]
 ·have e1 : packP (nd :: r) = putL wNar ++ nodeR nd (forest r) := by
   rw [pack_ref hw]
   rfl
  unfold expEnt
  simp only
  rw [e1] at s1 ⊢
  rw [← s1, r1]
  have r2' : y.2.rest = putL z.1 ++ z.2.rest := r2
  rw [r2', m2, r3, r4, m4, g2, r6]
  simp only [List.append_assoc]
structure OkX (x : CX) : Prop where
 has : StoreOk x.has
 order : x.order = x.came.map Ent.path
 once : x.came.Pairwise fun a b => a.path ≠ b.path
 good : ∀ e ∈ x.came, pathB e.path = true ∧ wrongL e.tree = -1 ∧ risingB e.refs = true ∧ (∀ r ∈ e.refs, r.length ≤ 12) ∧ ∀ o, findE x.has e.path = some o → sameE o e = true
 known : ∀ i e, x.came[i]? = some e → ∀ r ∈ e.refs, r = e.path ∨ (findE x.has r).isSome = true ∨ (findE (x.came.take i) r).isSome = true
 ten : x.has.length + freshN x ≤ 10
theorem OkX.start {has : Ents} (h : StoreOk has) : OkX (startX has) := ⟨h, rfl, List.Pairwise.nil, (fun e he => nomatch he), (fun i e he => by simp [startX] at he), (by simpa [freshN, startX] using h.ten)⟩
theorem OkX.more {x : CX} {e : Ent} (h : OkX x) (he : EntOk x e) : OkX { x with name := e.path, refs := e.refs, came := x.came ++ [e], order := x.order ++ [e.path] } := by
 refine ⟨h.has, by simp [h.order], ?_, fun o ho => ?_, fun i o ho r hr => ?_, ?_⟩
 ·refine List.pairwise_append.2 ⟨h.once, List.pairwise_singleton _ _, fun a ha b hb => ?_⟩
  obtain rfl := List.mem_singleton.1 hb
  exact findE_none.1 he.new a ha
 ·rcases List.mem_append.1 ho with ho | ho
  ·exact h.good o ho
  ·obtain rfl := List.mem_singleton.1 ho
   exact ⟨he.path, he.wrong, he.rise, he.short, he.same⟩
 ·simp only at ho ⊢
  by_cases hi : i < x.came.length
  ·rw [List.getElem?_append_left hi] at ho
   rw [List.take_append_of_le_length (by omega)]
   exact h.known i o ho r hr
  ·have hil : i = x.came.length := by
    have := (List.getElem?_eq_some_iff.1 ho).1
    simp at this
    omega
   subst hil
   rw [List.getElem?_append_right (Nat.le_refl _)] at ho
   simp only [Nat.sub_self, List.getElem?_cons_zero, Option.some.injEq] at ho
   subst ho
   rw [List.take_left' rfl]
   exact he.known r hr
 ·show x.has.length + (x.came ++ [e]).countP (fun o : Ent => (findE x.has o.path).isNone) ≤ 10
  rw [List.countP_append]
  have h1 := h.ten
  unfold freshN at h1
  cases hf : findE x.has e.path with
  | some o =>
    have : List.countP (fun o : Ent => (findE x.has o.path).isNone) [e] = 0 := by simp [hf]
    omega
  | none =>
    have h2 := he.room hf
    unfold freshN at h2
    have : List.countP (fun o : Ent => (findE x.has o.path).isNone) [e] = 1 := by simp [hf]
    omega
theorem imp_sound : ∀ (f : Nat) (x : CX) (ρ : RS) (xr : CX × RS), rImpF f x ρ = .ok xr → ρ.rest.length < f → OkX x → OkX xr.1 ∧ xr.1.has = x.has ∧ ∃ es, xr.1.came = x.came ++ es ∧ ρ.rest = es.flatMap expEnt ++ (putL wEnd ++ xr.2.rest)
 | 0, _, _, _, _, h, _ => absurd h (by omega)
 | f + 1, x, ρ, xr, h, hf, hx => by
   unfold rImpF at h
   obtain ⟨y, h1, h⟩ := bind_ok h
   obtain ⟨r1, m1, n1, -⟩ := rWord_put h1
   have ly := rWord_le h1
   split at h
   ·rename_i hy
    obtain ⟨z, h2, h⟩ := bind_ok h
    have lz := rEntry_le h2
    obtain ⟨e, g1, g2, g3⟩ := entry_sound h2
    obtain ⟨k1, k2, es, k3, k4⟩ := imp_sound f z.1 z.2 xr h (by omega) (by rw [g2]; exact hx.more g1)
    refine ⟨k1, by rw [k2, g2], e :: es, by rw [k3, g2]; simp, ?_⟩
    rw [r1, hy, g3, k4]
    simp
   ·rename_i hy
    cases h
    have hy2 : y.1 = wEnd := by
     simp only [List.mem_cons, List.not_mem_nil, or_false] at m1
     exact m1.resolve_left hy
    refine ⟨hx, rfl, [], by simp, ?_⟩
    rw [r1, hy2]
    simp
theorem import_sound {has : Ents} {S : List UInt8} {x : CX} (h : importL has S = .ok x) (hs : StoreOk has) : OkX x ∧ x.has = has ∧ S = expL x.came := by
 unfold importL at h
 obtain ⟨y, h1, h⟩ := bind_ok h
 obtain ⟨r1, m1, n1, -⟩ := rWord_put h1
 obtain ⟨z, h2, h⟩ := bind_ok h
 have ly := rWord_le h1
 split at h
 ·rename_i hz
  cases h
  obtain ⟨k1, k2, es, k3, k4⟩ := imp_sound _ _ _ _ h2 (by simp only at ly; omega) (OkX.start hs)
  refine ⟨k1, k2, ?_⟩
  simp only [List.mem_singleton] at m1
  simp only at r1
  have k5 : z.1.came = es := by rw [k3]; simp [startX]
  rw [r1, m1, k4, k5, hz, List.append_nil]
  rfl
 ·cases h
def comF (x : Ents × List (List UInt8)) (e : Ent) : Ents × List (List UInt8) := if (findE x.1 e.path).isSome then x else (putE x.1 e, x.2 ++ [e.path])
def commitL (has came : Ents) : Ents × List (List UInt8) := came.foldl comF (has, [])
theorem commit_snoc (has came : Ents) (e : Ent) : commitL has (came ++ [e]) = comF (commitL has came) e := by simp [commitL]
theorem put_isSome {L : Ents} {e : Ent} {p : List UInt8} : (findE (putE L e) p).isSome = true ↔ p = e.path ∨ (findE L p).isSome = true := by
 rw [findE_isSome, findE_isSome]
 constructor
 ·rintro ⟨o, ho, rfl⟩
  rcases putE_mem.1 ho with rfl | ho
  ·exact .inl rfl
  ·exact .inr ⟨o, ho, rfl⟩
 ·rintro (rfl | ⟨o, ho, rfl⟩)
  ·exact ⟨e, putE_mem.2 (.inl rfl), rfl⟩
  ·exact ⟨o, putE_mem.2 (.inr ho), rfl⟩
theorem find_snoc {L : Ents} {e : Ent} {p : List UInt8} : (findE (L ++ [e]) p).isSome = true ↔ (findE L p).isSome = true ∨ p = e.path := by
 rw [findE_isSome, findE_isSome]
 constructor
 ·rintro ⟨o, ho, rfl⟩
  rcases List.mem_append.1 ho with ho | ho
  ·exact .inl ⟨o, ho, rfl⟩
  ·obtain rfl := List.mem_singleton.1 ho
   exact .inr rfl
 ·rintro (⟨o, ho, rfl⟩ | rfl)
  ·exact ⟨o, List.mem_append.2 (.inl ho), rfl⟩
  ·exact ⟨e, List.mem_append.2 (.inr (List.mem_singleton.2 rfl)), rfl⟩
structure ComOk (has came : Ents) (y : Ents × List (List UInt8)) : Prop where
 ok : StoreOk y.1
 some : ∀ p, (findE y.1 p).isSome = true ↔ (findE has p).isSome = true ∨ (findE came p).isSome = true
 len : y.1.length = has.length + came.countP fun e => (findE has e.path).isNone
 mem : ∀ e ∈ y.1, e ∈ has ∨ e ∈ came
theorem ComOk.step {has came : Ents} {y : Ents × List (List UInt8)} {e : Ent} (h : ComOk has came y) (hn : findE came e.path = none) (h1 : pathB e.path = true) (h2 : wrongL e.tree = -1) (h3 : risingB e.refs = true)
 (hk : ∀ r ∈ e.refs, r = e.path ∨ (findE has r).isSome = true ∨ (findE came r).isSome = true) (ht : has.length + (came ++ [e]).countP (fun o => (findE has o.path).isNone) ≤ 10) : ComOk has (came ++ [e]) (comF y e) := by
 unfold comF
 by_cases hf : (findE y.1 e.path).isSome = true
 ·rw [if_pos hf]
  have hh : (findE has e.path).isSome = true := by
   rcases (h.some _).1 hf with g | g
   ·exact g
   ·rw [hn] at g; cases g
  refine ⟨h.ok, fun p => ?_, ?_, fun o ho => (h.mem o ho).imp id fun g => List.mem_append.2 (.inl g)⟩
  ·rw [h.some, find_snoc]
   constructor
   ·rintro (g | g)
    ·exact .inl g
    ·exact .inr (.inl g)
   ·rintro (g | g | rfl)
    ·exact .inl g
    ·exact .inr g
    ·exact .inl hh
  ·rw [h.len, List.countP_append]
   have : List.countP (fun o : Ent => (findE has o.path).isNone) [e] = 0 := by
    cases hx : findE has e.path with
    | none => rw [hx] at hh; cases hh
    | some _ => simp [hx]
   omega
 ·rw [if_neg hf]
  have hh : (findE has e.path).isNone = true := by
   cases hx : findE has e.path with
   | none => rfl
   | some _ => exact absurd ((h.some _).2 (.inl (by rw [hx]; rfl))) hf
  have hfn : findE y.1 e.path = none := by
   cases hx : findE y.1 e.path with
   | none => rfl
   | some _ => exact absurd (by rw [hx]; rfl) hf
  have hlen : (putE y.1 e).length = has.length + (came ++ [e]).countP (fun o => (findE has o.path).isNone) := by
   rw [putE_length, h.len, List.countP_append]
   have : List.countP (fun o : Ent => (findE has o.path).isNone) [e] = 1 := by simp [hh]
   omega
  refine ⟨⟨putE_rise h.ok.rise hfn, Nat.le_trans (Nat.le_of_eq hlen) ht, fun o ho => ?_, fun o ho r hr => ?_⟩, fun p => ?_, hlen, fun o ho => ?_⟩
  ·rcases putE_mem.1 ho with rfl | ho
   ·exact ⟨h1, h2, h3⟩
   ·exact h.ok.good o ho
  ·rw [put_isSome]
   rcases putE_mem.1 ho with rfl | ho
   ·rcases hk r hr with g | g | g
    ·exact .inl g
    ·exact .inr ((h.some r).2 (.inl g))
    ·exact .inr ((h.some r).2 (.inr g))
   ·exact .inr (h.ok.has o ho r hr)
  ·rw [put_isSome, h.some, find_snoc]
   constructor
   ·rintro (g | g | g)
    ·exact .inr (.inr g)
    ·exact .inl g
    ·exact .inr (.inl g)
   ·rintro (g | g | g)
    ·exact .inr (.inl g)
    ·exact .inr (.inr g)
    ·exact .inl g
  ·rcases putE_mem.1 ho with rfl | ho
   ·exact .inr (List.mem_append.2 (.inr (List.mem_singleton.2 rfl)))
   ·exact (h.mem o ho).imp id fun g => List.mem_append.2 (.inl g)
theorem countP_take_le {α : Type} (p : α → Bool) (l : List α) (k : Nat) : (l.take k).countP p ≤ l.countP p := (List.take_sublist k l).countP_le
theorem commit_ok {x : CX} (h : OkX x) : ∀ k, k ≤ x.came.length → ComOk x.has (x.came.take k) (commitL x.has (x.came.take k))
 | 0, _ => ⟨h.has, fun p => by simp [commitL, findE], by simp [commitL], fun e he => .inl he⟩
 | k + 1, hk => by
   have ih := commit_ok h k (by omega)
   obtain ⟨e, he⟩ : ∃ e, x.came[k]? = some e := ⟨_, List.getElem?_eq_getElem (by omega)⟩
   have hem := List.mem_of_getElem? he
   have ht : x.came.take (k + 1) = x.came.take k ++ [e] := by rw [List.take_add_one, he]; rfl
   rw [ht, commit_snoc]
   obtain ⟨g1, g2, g3, -⟩ := h.good e hem
   refine ih.step ?_ g1 g2 g3 (h.known k e he) ?_
   ·refine findE_none.2 fun o ho e2 => ?_
    obtain ⟨i, hi, hoi⟩ := List.getElem_of_mem ho
    have hik : i < k := by simp at hi; omega
    have h3 := List.pairwise_iff_getElem.1 h.once i k (by omega) (by omega) hik
    rw [List.getElem_take] at hoi
    rw [hoi] at h3
    have h4 : x.came[k]'(by omega) = e := by
     have := List.getElem?_eq_getElem (l := x.came) (i := k) (by omega)
     rw [this] at he
     exact Option.some.inj he
    rw [h4] at h3
    exact h3 e2
   ·rw [← ht]
    have h1 := h.ten
    unfold freshN at h1
    have h2 := countP_take_le (fun e : Ent => (findE x.has e.path).isNone) x.came (k + 1)
    omega
section
variable {P : Program} {w : World}
theorem run_append_own2 (t tx ty E : TypeId) (i : TypeInfo) (z : Value) (size bytes : Nat) (ht : P.underlying t = some (.slice E)) (hi : P.info? E = some i) (hz : i.zero = some z)
 (hsize : i.size = size) (hby : i.bytes = bytes) (hzs : z.cells.size = size) (B : Nat) (hB : B ≤ w.heap.size) (v : Value) (n : Nat) (xs : List Value) (h : Sl w B E size v n xs)
 (x : Value) (m : Nat) (news : List Value) (hs : Src P size tx x m news w) (b1 : n + m ≤ maxLen) (b2 : (n + m) * bytes ≤ 140737488355328) :
 ∃ ao cc w', (Builtin.append_ #[t, tx] ty #[v, x]).run P w = .ok (.slice ao (n + m) cc) w' ∧ Sl w' B E size (.slice ao (n + m) cc) (n + m) (xs ++ news) ∧ Kp B [E] w w' ∧ Keeps (OwnOf v) w w' ∧
   ((Value.slice ao (n + m) cc).ownBlock = v.ownBlock ∨ (Value.slice ao (n + m) cc).ownBlock = some w.heap.size) := by
 subst hsize
 subst hby
 obtain ⟨h1, h2⟩ := h
 have hlen : (xs ++ news).length = (n + m) * i.size := by rw [List.length_append, h1, hs.newsLen, Nat.add_mul]
 have hgrow : ∀ (base : Option Addr) (cap : Nat), v = .slice base n cap → cap < n + m → (Builtin.firstCells i.size n (.slice base n cap)).run P w.drew = .ok xs.toArray w.drew →
  ∃ ao cc w', (Builtin.append_ #[t, tx] ty #[v, x]).run P w = .ok (.slice ao (n + m) cc) w' ∧ Sl w' B E i.size (.slice ao (n + m) cc) (n + m) (xs ++ news) ∧ Kp B [E] w w' ∧ Keeps (OwnOf v) w w' ∧
    ((Value.slice ao (n + m) cc).ownBlock = v.ownBlock ∨ (Value.slice ao (n + m) cc).ownBlock = some w.heap.size) := by
  rintro base cap rfl hg hold
  have hge := grownCap_ge w (n + m) cap E
  have hcm : grownCap w (n + m) cap E ≤ maxLen := grownCap_le_maxLen w (n + m) cap E b1
  have hr := run_append_grow_src (P := P) w t tx ty E i z ht hi hz base n cap xs hold x m news hs hg (by unfold maxLen at b1; omega) (growslice_fits hg b2)
  refine ⟨_, _, _, hr, ⟨hlen, .inr ⟨w.heap.size, 0, _, _, rfl, hB, Blk.new w.drew _ _, hge, hcm, ?_, fun j hj => ?_⟩⟩, (Kp.refl _ _ w).drew.alloc _, (Keeps.refl _ w).drew.alloc _, .inr rfl⟩
  ·simp only [Array.size_append, List.size_toArray, size_zeroCells, hzs, hlen, ← Nat.add_mul, Nat.zero_add]
   rw [show n + m + (grownCap w (n + m) cap E - (n + m)) = grownCap w (n + m) cap E by omega]
   exact Nat.le_refl _
  ·rw [Nat.zero_add, Array.getElem?_append_left (by simp only [List.size_toArray, hlen]; exact hj)]
   simp
 rcases h2 with ⟨rfl, rfl⟩ | ⟨b, off, cap, c, rfl, hBb, hb, h3, h4, h5, h6⟩
 ·obtain rfl : xs = [] := List.eq_nil_of_length_eq_zero (by simpa using h1)
  by_cases hm : m = 0
  ·subst hm
   obtain rfl : news = [] := List.eq_nil_of_length_eq_zero (by simpa using hs.newsLen)
   have : (Builtin.append_ #[t, tx] ty #[.slice none 0 0, x]).run P w = .ok (.slice none 0 0) w := by
    rcases hs.kind with ⟨e', hk⟩ | hk <;> simp [Builtin.append_, run_underlying ht, run_underlying hk, sizeOf, typeInfo, hi, hs.len, hs.cells]
   exact ⟨_, _, _, this, Sl.nil _ _ _ _, Kp.refl _ _ _, Keeps.refl _ _, .inl rfl⟩
  ·exact hgrow none 0 rfl (by omega) (by simp [Builtin.firstCells])
 ·have hcells : ∀ (w1 : World), w1.cell? = w.cell? → (Builtin.firstCells i.size n (.slice (some ⟨b, off, none⟩) n cap)).run P w1 = .ok xs.toArray w1 := fun w1 hw1 =>
   run_firstCells_some w1 i.size n ⟨b, off, none⟩ n cap xs h1 (fun j u hj => by
    rw [Addr.add_lit, hw1, hb.cell, h6 j (by rw [← h1]; exact (List.getElem?_eq_some_iff.1 hj).1)]
    exact hj)
  by_cases hr : n + m ≤ cap
  ·have hnc : n * i.size + news.length ≤ cap * i.size := by rw [hs.newsLen, ← Nat.add_mul]; exact Nat.mul_le_mul_right _ hr
   have hrun := run_append_room_src (P := P) w t tx ty E i ht hi b off n cap x m news hs hr
    (fun j hj => by rw [hb.cell]; simp; omega) (fun j hj => hb.free _)
   obtain ⟨c', g1, g2, g3, g4⟩ := Blk.setCells (w := w) news (off + n * i.size) w c hb
   have hkk : Keeps (One b) w (w.setCells b (off + n * i.size) news) := Keeps.setCells (S := One b) (.inl rfl) _ _ _ (Keeps.refl _ _)
   refine ⟨_, _, _, hrun, ⟨hlen, .inr ⟨b, off, cap, c', rfl, hBb, g1, hr, h4, by omega, fun j hj => ?_⟩⟩, ⟨hkk.os, hkk.tape, hkk.output, hkk.size, fun k hk => ?_⟩, hkk.mono (fun k _ e => by cases e; rfl), .inl rfl⟩
   ·by_cases hjn : j < n * i.size
    ·rw [g3 _ (.inl (by omega)), h6 j hjn, List.getElem?_append_left (by omega)]
    ·have hk := hs.newsLen
     rw [Nat.add_mul] at hj
     rw [show off + j = off + n * i.size + (j - n * i.size) by omega, g4 (by omega) _ (by omega), List.getElem?_append_right (by omega), h1]
   ·by_cases e : k = b
    ·subst e; exact .inr ⟨hBb, c, c', E, by simp, hb, g1⟩
    ·exact .inl (hkk.block k hk e)
  ·exact hgrow _ cap rfl (by omega) (hcells w.drew (by funext a; rfl))
theorem wpList_append_own2 {ops : Array Oper} {rest : List Oper} {o : Oper} {a : Act} {Q : Exit → Act → World → Prop} (hgd : o.guard = none) (s x : Operand) (t tx : TypeId)
 (hop : o.op = Op.call { callee := Callee.builtin Builtin.append, args := #[s, x], argTypes := #[t, tx] })
 (E : TypeId) (i : TypeInfo) (z : Value) (size bytes : Nat) (ht : P.underlying t = some (.slice E)) (hi : P.info? E = some i) (hz : i.zero = some z)
 (hsize : i.size = size) (hby : i.bytes = bytes) (hzs : z.cells.size = size) (B : Nat) (v : Value) (n : Nat) (xs : List Value) (hv : a.eval s = v) (xv : Value) (hxv : a.eval x = xv)
 (m : Nat) (news : List Value) (hB : B ≤ w.heap.size) (h : Sl w B E size v n xs) (hs : Src P size tx xv m news w) (b1 : n + m ≤ maxLen) (b2 : (n + m) * bytes ≤ 140737488355328)
 (hK : ∀ ao cc w', Sl w' B E size (.slice ao (n + m) cc) (n + m) (xs ++ news) → Kp B [E] w w' → Keeps (OwnOf v) w w' → ((Value.slice ao (n + m) cc).ownBlock = v.ownBlock ∨ (Value.slice ao (n + m) cc).ownBlock = some w.heap.size) → wpList P ops Q rest (a.put o.dst (.slice ao (n + m) cc)) w') :
 wpList P ops Q (o :: rest) a w := by
 refine wpList_plain hgd fun K hK' => ?_
 obtain ⟨ao, cc, w', hrun, r1, r2, r3, r4⟩ := run_append_own2 (P := P) t tx o.type E i z size bytes ht hi hz hsize hby hzs B hB v n xs h xv m news hs b1 b2
 unfold Oper.wp
 simp [execOp, hop, resolve, invoke, builtin, hv, hxv, hrun, Result.andThen]
 exact hK' _ _ (hK ao cc w' r1 r2 r3 r4)
theorem step_append_own2 {ops : Array Oper} {o : Oper} {a : Act} {K : Act → World → Prop} {Q : Exit → Act → World → Prop} {F : Prop} (hgd : o.guard = none) (s x : Operand) (t tx : TypeId)
 (hop : o.op = Op.call { callee := Callee.builtin Builtin.append, args := #[s, x], argTypes := #[t, tx] })
 (E : TypeId) (i : TypeInfo) (z : Value) (size bytes : Nat) (ht : P.underlying t = some (.slice E)) (hi : P.info? E = some i) (hz : i.zero = some z)
 (hsize : i.size = size) (hby : i.bytes = bytes) (hzs : z.cells.size = size) (B : Nat) (v : Value) (n : Nat) (xs : List Value) (hv : a.eval s = v) (xv : Value) (hxv : a.eval x = xv)
 (m : Nat) (news : List Value) (hB : B ≤ w.heap.size) (h : Sl w B E size v n xs) (hs : Src P size tx xv m news w) (b1 : n + m ≤ maxLen) (b2 : (n + m) * bytes ≤ 140737488355328)
 (hK : ∀ ao cc w', Sl w' B E size (.slice ao (n + m) cc) (n + m) (xs ++ news) → Kp B [E] w w' → Keeps (OwnOf v) w w' → ((Value.slice ao (n + m) cc).ownBlock = v.ownBlock ∨ (Value.slice ao (n + m) cc).ownBlock = some w.heap.size) → K (a.put o.dst (.slice ao (n + m) cc)) w') :
 if Region.wanted o (yielded ops a.tmps) = true then Oper.wp P o a w K Q else F := by
 have hw : Region.wanted o (yielded ops a.tmps) = true := by simp [Region.wanted, hgd]
 rw [if_pos hw]
 obtain ⟨ao, cc, w', hrun, r1, r2, r3, r4⟩ := run_append_own2 (P := P) t tx o.type E i z size bytes ht hi hz hsize hby hzs B hB v n xs h xv m news hs b1 b2
 unfold Oper.wp
 simp [execOp, hop, resolve, invoke, builtin, hv, hxv, hrun, Result.andThen]
 exact hK ao cc w' r1 r2 r3 r4
end
end Go.Proofs.YtdkogijdfgfpeaaGreatDoor
