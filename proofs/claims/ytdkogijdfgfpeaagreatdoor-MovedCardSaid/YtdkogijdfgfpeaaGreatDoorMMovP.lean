/- Plain: what a path leads to, moved into another store: the same there. -/
import Derived.Test.YtdkogijdfgfpeaaGreatDoorMImpC
import Derived.Test.YtdkogijdfgfpeaaGreatDoorMExpP
import Derived.Test.YtdkogijdfgfpeaaGreatDoorMClosW
set_option linter.unusedVariables false
namespace Go.Proofs.YtdkogijdfgfpeaaGreatDoor
open Go Go.RowKit
structure ExOk (es : Ents) : Prop where
 once : es.Pairwise fun a b => a.path ≠ b.path
 good : ∀ e ∈ es, pathB e.path = true ∧ wrongL e.tree = -1 ∧ risingB e.refs = true ∧ ∀ r ∈ e.refs, r.length ≤ 12
 ahead : ∀ a e b, es = a ++ e :: b → ∀ r ∈ e.refs, r = e.path ∨ ∃ o ∈ a, o.path = r
theorem comes_go {has es : Ents} (h : ExOk es) (hs : ∀ e ∈ es, ∀ o, findE has e.path = some o → sameE o e = true) (hr : has.length + es.countP (fun e => (findE has e.path).isNone) ≤ 10) :
 ∀ b a, es = a ++ b → Comes ((startX has).nexts a) b
 | [], a, he => trivial
 | e :: b, a, he => by
   obtain ⟨q1, q2, q3⟩ := nexts_has a (startX has)
   have hem : e ∈ es := by rw [he]; simp
   obtain ⟨g1, g2, g3, g4⟩ := h.good e hem
   have hn : findE a e.path = none := findE_none.2 fun o ho e2 => by
    have h1 := h.once
    rw [he] at h1
    exact (List.pairwise_append.1 h1).2.2 o ho e (List.mem_cons_self ..) e2
   refine ⟨⟨g1, ?_, g2, g3, fun r hrr => ?_, g4, ?_, ?_⟩, ?_⟩
   ·rw [q2]; simpa [startX] using hn
   ·rw [q1, q2]
    rcases h.ahead a e b he r hrr with h1 | ⟨o, ho, rfl⟩
    ·exact .inl h1
    ·exact .inr (.inr (findE_isSome.2 ⟨o, by simpa [startX] using ho, rfl⟩))
   ·rw [q1]
    exact hs e hem
   ·intro hf h10
    rw [q1] at hf h10
    unfold freshN at h10
    rw [q1, q2] at h10
    have h1 : (startX has).has = has := rfl
    have h2 : (startX has).came ++ a = a := rfl
    rw [h1] at hf h10
    rw [h2] at h10
    rw [he, List.countP_append, List.countP_cons] at hr
    rw [hf] at hr
    simp only [Option.isNone_none, if_true] at hr
    omega
   ·have := comes_go h hs hr b (a ++ [e]) (by rw [he]; simp)
    simpa [CX.nexts] using this
theorem ExOk.comes {has es : Ents} (h : ExOk es) (hs : ∀ e ∈ es, ∀ o, findE has e.path = some o → sameE o e = true) (hr : has.length + es.countP (fun e => (findE has e.path).isNone) ≤ 10) : Comes (startX has) es :=
 comes_go h hs hr es [] rfl
theorem entsOf_path {L : Ents} : ∀ {K : List (List UInt8)}, (∀ p ∈ K, (findE L p).isSome = true) → (entsOf L K).map Ent.path = K
 | [], _ => rfl
 | p :: K, h => by
   obtain ⟨e, he⟩ := Option.isSome_iff_exists.1 (h p (List.mem_cons_self ..))
   rw [entsOf_cons he, List.map_cons, entsOf_path fun q hq => h q (List.mem_cons_of_mem _ hq), (findE_some he).2]
theorem told_some {L : Ents} {all out : List (List UInt8)} (h : Told L all out) : ∀ p ∈ out, (findE L p).isSome = true := fun p hp => by
 obtain ⟨a, b, hab⟩ := List.append_of_mem hp
 obtain ⟨e, he, hep, -⟩ := h.ahead a p b hab
 exact findE_isSome.2 ⟨e, he, hep⟩
theorem findE_mem {L : Ents} (hok : StoreOk L) {e : Ent} (he : e ∈ L) : findE L e.path = some e := by
 obtain ⟨o, ho⟩ := Option.isSome_iff_exists.1 (findE_isSome.2 ⟨e, he, rfl⟩)
 obtain ⟨h1, h2⟩ := findE_some ho
 rw [ho, hok.uniq h1 he h2]
theorem ExOk.told {L : Ents} (hok : StoreOk L) {all out : List (List UInt8)} (h : Told L all out) : ExOk (entsOf L out) := by
 have hp := entsOf_path (told_some h)
 refine ⟨?_, fun e he => ?_, fun a e b hab r hr => ?_⟩
 ·have h1 := h.once
  rw [← hp] at h1
  exact (List.pairwise_map.1 h1)
 ·obtain ⟨h1, -⟩ := entsOf_mem he
  obtain ⟨g1, g2, g3⟩ := hok.good e h1
  exact ⟨g1, g2, g3, (hok.refsLen h1).2⟩
 ·have h1 : out = a.map Ent.path ++ e.path :: b.map Ent.path := by rw [← hp, hab]; simp
  obtain ⟨o, ho, hop, hr2⟩ := h.ahead _ _ _ h1
  obtain ⟨h2, -⟩ := entsOf_mem (L := L) (K := out) (e := e) (by rw [hab]; simp)
  have := hok.uniq ho h2 hop
  subst this
  rcases hr2 r hr with h3 | h3
  ·exact .inl h3
  ·right
   obtain ⟨q, hq, hqp⟩ := List.mem_map.1 h3
   exact ⟨q, hq, hqp⟩
theorem commit_new : ∀ (es : Ents) (L : Ents) (out : List (List UInt8)), (∀ e ∈ es, findE L e.path = none) → (es.Pairwise fun a b => a.path ≠ b.path) → (es.foldl comF (L, out)).2 = out ++ es.map Ent.path
 | [], L, out, _, _ => by simp
 | e :: es, L, out, h, hp => by
   have h1 : comF (L, out) e = (putE L e, out ++ [e.path]) := by
    unfold comF
    simp only
    rw [h e (List.mem_cons_self ..)]
    rfl
   rw [List.foldl_cons, h1, commit_new es (putE L e) (out ++ [e.path]) (fun o ho => findE_none.2 fun q hq e2 => ?_) (List.pairwise_cons.1 hp).2]
   ·simp
   ·rcases putE_mem.1 hq with rfl | hq
    ·exact (List.pairwise_cons.1 hp).1 o ho e2
    ·exact findE_none.1 (h o (List.mem_cons_of_mem _ ho)) q hq e2
theorem commit_old : ∀ (es : Ents) (L : Ents) (out : List (List UInt8)), (∀ e ∈ es, (findE L e.path).isSome = true) → es.foldl comF (L, out) = (L, out)
 | [], L, out, _ => rfl
 | e :: es, L, out, h => by
   have h1 : comF (L, out) e = (L, out) := by
    unfold comF
    simp only
    rw [if_pos (h e (List.mem_cons_self ..))]
   rw [List.foldl_cons, h1]
   exact commit_old es L out fun o ho => h o (List.mem_cons_of_mem _ ho)
structure Moved0 (es L' : Ents) : Prop where
 ok : StoreOk L'
 len : L'.length = es.length
 mem : ∀ e, e ∈ L' ↔ e ∈ es
theorem moved_start {x : CX} (h : OkX x) (h0 : x.has = []) : Moved0 x.came (commitL [] x.came).1 ∧ (commitL [] x.came).2 = x.came.map Ent.path := by
 have hc := commit_ok h x.came.length (Nat.le_refl _)
 rw [List.take_length, h0] at hc
 have hnew := commit_new x.came [] [] (fun e _ => rfl) h.once
 refine ⟨⟨hc.ok, ?_, fun e => ⟨fun he => ?_, fun he => ?_⟩⟩, by rw [commitL, hnew]; simp⟩
 ·rw [hc.len]
  have : (x.came.countP fun e => (findE [] e.path).isNone) = x.came.length := List.countP_eq_length.2 fun e _ => rfl
  rw [this]
  simp
 ·rcases hc.mem e he with h1 | h1
  ·cases h1
  ·exact h1
 ·have h1 := (hc.some e.path).2 (.inr (findE_isSome.2 ⟨e, he, rfl⟩))
  obtain ⟨o, ho, hop⟩ := findE_isSome.1 h1
  rcases hc.mem o ho with h2 | h2
  ·cases h2
  ·have : o = e := by
    obtain ⟨i, hi, rfl⟩ := List.getElem_of_mem h2
    obtain ⟨j, hj, rfl⟩ := List.getElem_of_mem he
    rcases Nat.lt_trichotomy i j with hl | hl | hl
    ·exact absurd hop (List.pairwise_iff_getElem.1 h.once i j hi hj hl)
    ·subst hl; rfl
    ·exact absurd hop.symm (List.pairwise_iff_getElem.1 h.once j i hj hi hl)
   rw [← this]
   exact ho
theorem rise_ext : ∀ {A B : Ents}, (A.Pairwise fun a b => Op.bytesLess a.path b.path = true) → (B.Pairwise fun a b => Op.bytesLess a.path b.path = true) → (∀ e, e ∈ A ↔ e ∈ B) → A = B
 | [], [], _, _, _ => rfl
 | [], b :: B, _, _, h => absurd ((h b).2 (List.mem_cons_self ..)) (by simp)
 | a :: A, [], _, _, h => absurd ((h a).1 (List.mem_cons_self ..)) (by simp)
 | a :: A, b :: B, ha, hb, h => by
   obtain ⟨ha1, ha2⟩ := List.pairwise_cons.1 ha
   obtain ⟨hb1, hb2⟩ := List.pairwise_cons.1 hb
   have hab : a = b := by
    rcases List.mem_cons.1 ((h a).1 (List.mem_cons_self ..)) with e | h1
    ·exact e
    ·rcases List.mem_cons.1 ((h b).2 (List.mem_cons_self ..)) with e | h2
     ·exact e.symm
     ·have h3 := bytesLess_trans (ha1 b h2) (hb1 a h1)
      rw [bytesLess_irrefl] at h3
      cases h3
   subst hab
   have hn : ∀ {C : Ents}, (∀ x ∈ C, Op.bytesLess a.path x.path = true) → a ∉ C := fun hC hm => by
    have := hC a hm
    rw [bytesLess_irrefl] at this
    cases this
   rw [rise_ext ha2 hb2 fun e => ⟨fun he => ?_, fun he => ?_⟩]
   ·rcases List.mem_cons.1 ((h e).1 (List.mem_cons_of_mem _ he)) with rfl | h1
    ·exact absurd he (hn ha1)
    ·exact h1
   ·rcases List.mem_cons.1 ((h e).2 (List.mem_cons_of_mem _ he)) with rfl | h1
    ·exact absurd he (hn hb1)
    ·exact h1
theorem closF_more {L : Ents} {all : List (List UInt8)} : ∀ (f g : Nat) (out : List (List UInt8)), L.find? (readyB L all (closF L all f out)) = none → closF L all (f + g) out = closF L all f out
 | 0, 0, out, _ => rfl
 | 0, g + 1, out, h => by
   have h1 : L.find? (readyB L all out) = none := h
   show closF L all (0 + (g + 1)) out = out
   rw [Nat.zero_add, closF, h1]
 | f + 1, g, out, h => by
   rw [show f + 1 + g = (f + g) + 1 by omega]
   unfold closF at h ⊢
   cases hf : L.find? (readyB L all out) with
   | none => rfl
   | some e =>
     rw [hf] at h
     exact closF_more f g _ h
theorem closF_filter {L L' : Ents} {all : List (List UInt8)} (hL : L' = L.filter fun e => all.contains e.path) : ∀ (f : Nat) (out : List (List UInt8)), closF L' all f out = closF L all f out
 | 0, out => rfl
 | f + 1, out => by
   have h1 : L'.find? (readyB L' all out) = L.find? (readyB L all out) := by
    rw [hL, List.find?_filter]
    congr 1
    funext e
    show decide (all.contains e.path = true ∧ readyB L all out e = true) = readyB L all out e
    cases hr : readyB L all out e with
    | false => simp
    | true =>
      have := (ready_iff.1 hr).1
      simp [this]
   unfold closF
   rw [h1]
   cases L.find? (readyB L all out) with
   | none => rfl
   | some e => exact closF_filter hL f _
theorem filterMap_same {α β : Type} {f g : α → Option β} : ∀ l : List α, (∀ x ∈ l, f x = g x) → l.filterMap f = l.filterMap g
 | [], _ => rfl
 | x :: l, h => by
   rw [List.filterMap_cons, List.filterMap_cons, h x (List.mem_cons_self ..), filterMap_same l fun y hy => h y (List.mem_cons_of_mem _ hy)]
theorem moved_clos {L L' : Ents} {roots K K' : List (List UInt8)} {rk : List UInt8 → Nat} (hok : StoreOk L) (ha : Acyc L rk) (hR : ReachOf L roots K) (hm : Moved0 (entsOf L (closL L K)) L') (hR' : ReachOf L' roots K') :
 entsOf L' (closL L' K') = entsOf L (closL L K) := by
 have hall := closL_all ha (all := K) hR.keys
 have hT := closL_told L K
 have hmem : ∀ e, e ∈ L' ↔ e ∈ L ∧ e.path ∈ K := fun e => by
  rw [hm.mem]
  constructor
  ·intro h
   obtain ⟨h1, h2⟩ := entsOf_mem h
   exact ⟨h1, hT.all _ h2⟩
  ·rintro ⟨h1, h2⟩
   exact List.mem_filterMap.2 ⟨e.path, hall _ h2, findE_mem hok h1⟩
 have hL : L' = L.filter fun e => K.contains e.path := by
  refine rise_ext hm.ok.rise (hok.rise.filter _) fun e => ?_
  rw [hmem, List.mem_filter, List.contains_iff_mem]
 have hKK : ∀ p, K'.contains p = K.contains p := fun p => by
  rw [Bool.eq_iff_iff, List.contains_iff_mem, List.contains_iff_mem]
  constructor
  ·refine hR'.least (fun p => p ∈ K) (fun e he hp r hr => ?_) hR.has p
   obtain ⟨o, ho, hop, hr2⟩ := hR.keys e.path hp
   have := hok.uniq ho ((hmem e).1 he).1 hop
   subst this
   exact hr2 r hr
  ·refine fun hpK => (hR.least (fun p => p ∈ K ∧ p ∈ K') (fun e he hp r hr => ?_) (fun r hr => ⟨hR.has r hr, hR'.has r hr⟩) p hpK).2
   obtain ⟨o, ho, hop, hr2⟩ := hR'.keys e.path hp.2
   have := hok.uniq ((hmem o).1 ho).1 he hop
   subst this
   obtain ⟨o2, ho2, hop2, hr3⟩ := hR.keys o.path hp.1
   have := hok.uniq ho2 he hop2
   subst this
   exact ⟨hr3 r hr, hr2 r hr⟩
 have hc : closL L' K' = closL L K := by
  unfold closL
  rw [closF_same hKK]
  have h1 := (closF_told (L'.length + 1) [] (Told.nil L' K)).2 (by simp)
  obtain ⟨g, hg⟩ : ∃ g, L.length + 1 = L'.length + 1 + g := ⟨L.length - L'.length, by have := List.length_filter_le (fun e : Ent => K.contains e.path) L; rw [← hL] at this; omega⟩
  rw [hg, ← closF_filter hL]
  exact (closF_more (L'.length + 1) g [] h1).symm
 rw [hc]
 unfold entsOf
 refine filterMap_same _ fun p hp => ?_
 obtain ⟨e, he⟩ := Option.isSome_iff_exists.1 (told_some hT p hp)
 obtain ⟨h1, h2⟩ := findE_some he
 subst h2
 have h3 : e ∈ L' := (hmem e).2 ⟨h1, hT.all _ hp⟩
 rw [he, findE_mem hm.ok h3]
end Go.Proofs.YtdkogijdfgfpeaaGreatDoor
