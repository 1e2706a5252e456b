/- Plain: what is read is a tree's shape, to the byte; and back. -/
import Derived.Test.YtdkogijdfgfpeaaGreatDoorMGrown
set_option linter.unusedVariables false
namespace Go.Proofs.YtdkogijdfgfpeaaGreatDoor
open Go Go.RowKit
def SNode (d : Nat) : Prop := ∀ (path : List UInt8) (ρ ρ' : RS), rNode d path ρ = .ok ρ' → ρ.nodes.length ≤ 30 →
 ∃ (e : Nat) (x : Node) (r : List Node), d = e + 1 ∧ VN e path x r ∧ ρ.rest = nodeR x (forest r) ++ ρ'.rest ∧ ρ'.nodes = ρ.nodes ++ x :: r ∧ ρ'.nodes.length ≤ 30
theorem sound_dirF {d : Nat} (hN : SNode d) (p : List UInt8) : ∀ (f : Nat) (last : List UInt8) (ρ ρ' : RS), rDirF (rNode d) p f last ρ = .ok ρ' → ρ.rest.length < f → ρ.nodes.length ≤ 30 →
 ∃ r, VF d p last r ∧ ρ.rest = forest r ++ (putL wShut ++ ρ'.rest) ∧ ρ'.nodes = ρ.nodes ++ r ∧ ρ'.nodes.length ≤ 30
 | 0, _, _, _, _, h, _ => absurd h (by omega)
 | f + 1, last, ρ, ρ', h, hf, hl => by
   unfold rDirF at h
   obtain ⟨x, h1, h⟩ := bind_ok h
   obtain ⟨r1, m1, n1, -⟩ := rWord_put h1
   have l1 := rWord_le h1
   by_cases hs : x.1 = wShut
   ·rw [if_pos hs] at h
    cases h
    refine ⟨[], .nil _ _ _, ?_, by rw [n1, List.append_nil], by rw [n1]; exact hl⟩
    rw [r1, hs]; rfl
   ·rw [if_neg hs] at h
    have he : x.1 = wEntry := by
     simp only [List.mem_cons, List.not_mem_nil, or_false] at m1
     exact m1.resolve_right hs
    obtain ⟨a, h2, h⟩ := bind_ok h
    obtain ⟨r2, m2, n2, -⟩ := rWord_put h2
    have l2 := rWord_le h2
    obtain ⟨y, h3, h⟩ := bind_ok h
    obtain ⟨r3, m3, n3, -⟩ := rWord_put h3
    have l3 := rWord_le h3
    obtain ⟨c, h4, h⟩ := bind_ok h
    obtain ⟨r4, -, n4, -⟩ := rNext_put h4
    have l4 := rNext_le h4
    by_cases hnm : nameB c.1 = false
    ·rw [if_pos hnm] at h; cases h
    rw [if_neg hnm] at h
    by_cases hle : leS c.1 last = true
    ·rw [if_pos hle] at h; cases h
    rw [if_neg hle] at h
    obtain ⟨z, h5, h⟩ := bind_ok h
    obtain ⟨r5, m5, n5, -⟩ := rWord_put h5
    have l5 := rWord_le h5
    obtain ⟨ρ2, h6, h⟩ := bind_ok h
    have hzl : z.2.nodes.length ≤ 30 := by rw [n5, n4, n3, n2, n1]; exact hl
    obtain ⟨e, nd, sub, rfl, ⟨v1, v2⟩, r6, n6, len6⟩ := hN _ _ _ h6 hzl
    have l6 := rNode_le _ _ _ _ h6
    obtain ⟨z2, h7, h⟩ := bind_ok h
    obtain ⟨r7, m7, n7, -⟩ := rWord_put h7
    have l7 := rWord_le h7
    obtain ⟨r, hv, r8, n8, len8⟩ := sound_dirF hN p f c.1 z2.2 ρ' h (by omega) (by rw [n7]; exact len6)
    have hnm2 : nameB c.1 = true := by simpa using hnm
    have hle2 : leS c.1 last = false := by simpa using hle
    have hm : ∀ {t u : List UInt8}, t ∈ [u] → t = u := fun h => by simpa using h
    have htext : ∀ T : List UInt8, entryT nd ++ (nodeR nd (forest sub) ++ (putL [41] ++ forest r)) ++ (putL wShut ++ ρ'.rest) = ρ.rest := by
     intro _
     rw [r1, he, r2, hm m2, r3, hm m3, r4, r5, hm m5, r6, r7, hm m7, r8, entry_name v1 hnm2]
     simp only [List.append_assoc]
    rcases v2 with ⟨k4, rfl, hd⟩ | ⟨k4, kd, hvs⟩
    ·refine ⟨nd :: r, .leaf e p last c.1 nd r v1 hnm2 hle2 k4 hd hv, ?_, ?_, len8⟩
     ·rw [forest_leaf v1 hnm2 hv, htext []]
     ·rw [n8, n7, n6, n5, n4, n3, n2, n1]; simp
    ·refine ⟨nd :: (sub ++ r), .dir e p last c.1 nd sub r v1 hnm2 hle2 k4 kd hvs hv, ?_, ?_, len8⟩
     ·rw [forest_dir v1 hnm2 hvs hv, htext []]
     ·rw [n8, n7, n6, n5, n4, n3, n2, n1]; simp
theorem sound_node : ∀ d : Nat, SNode d
 | 0 => by
   intro path ρ ρ' h _
   unfold rNode at h
   obtain ⟨x, h1, h⟩ := bind_ok h
   cases h
 | d + 1 => by
   intro path ρ ρ' h hl
   have hm : ∀ {t u : List UInt8}, t ∈ [u] → t = u := fun h => by simpa using h
   unfold rNode at h
   obtain ⟨x, h1, h⟩ := bind_ok h
   obtain ⟨r1, m1, n1, -⟩ := rWord_put h1
   by_cases h30 : x.2.nodes.length = 30
   ·rw [if_pos h30] at h; cases h
   rw [if_neg h30] at h
   obtain ⟨y, h2, h⟩ := bind_ok h
   obtain ⟨r2, m2, n2, -⟩ := rWord_put h2
   obtain ⟨z, h3, h⟩ := bind_ok h
   obtain ⟨r3, m3, n3, -⟩ := rWord_put h3
   rw [n1] at h30
   have hlt : ρ.nodes.length < 30 := by omega
   refine ⟨d, ?_⟩
   by_cases hF : z.1 = wFile
   ·rw [if_pos hF] at h
    unfold rFile at h
    obtain ⟨a, h4, h⟩ := bind_ok h
    obtain ⟨r4, m4, n4, -⟩ := rWord_put h4
    by_cases hx : a.1 = wExec
    ·rw [if_pos hx] at h
     obtain ⟨b1, h5, h⟩ := bind_ok h
     obtain ⟨r5, m5, n5, -⟩ := rWord_put h5
     obtain ⟨b2, h6, h⟩ := bind_ok h
     obtain ⟨r6, m6, n6, -⟩ := rWord_put h6
     obtain ⟨b3, h7, h⟩ := bind_ok h
     obtain ⟨r7, len7, n7, -⟩ := rNext_put h7
     obtain ⟨b4, h8, h⟩ := bind_ok h
     obtain ⟨r8, m8, n8, -⟩ := rWord_put h8
     cases h
     simp only [RS.add] at r8 n8
     refine ⟨⟨path, 2, b3.1⟩, [], rfl, ⟨rfl, .inl ⟨by simp, rfl, by simp [dataB]; exact len7⟩⟩, ?_, ?_, ?_⟩
     ·rw [r1, hm m1, r2, hm m2, r3, hF, r4, hx, r5, hm m5, r6, hm m6, r7, r8, hm m8, nodeR_text]
      simp [leafR, putAll]
     ·rw [n8, n7, n6, n5, n4, n3, n2, n1]
     ·rw [n8, n7, n6, n5, n4, n3, n2, n1]; simp; omega
    ·rw [if_neg hx] at h
     have hda : a.1 = wData := by
      simp only [List.mem_cons, List.not_mem_nil, or_false] at m4
      exact m4.resolve_left hx
     obtain ⟨b3, h7, h⟩ := bind_ok h
     obtain ⟨r7, len7, n7, -⟩ := rNext_put h7
     obtain ⟨b4, h8, h⟩ := bind_ok h
     obtain ⟨r8, m8, n8, -⟩ := rWord_put h8
     cases h
     simp only [RS.add] at r8 n8
     refine ⟨⟨path, 1, b3.1⟩, [], rfl, ⟨rfl, .inl ⟨by simp, rfl, by simp [dataB]; exact len7⟩⟩, ?_, ?_, ?_⟩
     ·rw [r1, hm m1, r2, hm m2, r3, hF, r4, hda, r7, r8, hm m8, nodeR_text]
      simp [leafR, putAll]
     ·rw [n8, n7, n4, n3, n2, n1]
     ·rw [n8, n7, n4, n3, n2, n1]; simp; omega
   rw [if_neg hF] at h
   by_cases hL : z.1 = wLink
   ·rw [if_pos hL] at h
    unfold rLink at h
    obtain ⟨a, h4, h⟩ := bind_ok h
    obtain ⟨r4, m4, n4, -⟩ := rWord_put h4
    obtain ⟨b3, h7, h⟩ := bind_ok h
    obtain ⟨r7, len7, n7, -⟩ := rNext_put h7
    by_cases hd : dataB 3 b3.1 = true
    ·rw [if_pos hd] at h
     obtain ⟨b4, h8, h⟩ := bind_ok h
     obtain ⟨r8, m8, n8, -⟩ := rWord_put h8
     cases h
     simp only [RS.add] at r8 n8
     refine ⟨⟨path, 3, b3.1⟩, [], rfl, ⟨rfl, .inl ⟨by simp, rfl, hd⟩⟩, ?_, ?_, ?_⟩
     ·rw [r1, hm m1, r2, hm m2, r3, hL, r4, hm m4, r7, r8, hm m8, nodeR_text]
      simp [leafR, putAll]
     ·rw [n8, n7, n4, n3, n2, n1]
     ·rw [n8, n7, n4, n3, n2, n1]; simp; omega
    ·rw [if_neg hd] at h; cases h
   rw [if_neg hL] at h
   have hD : z.1 = wDir := by
    simp only [List.mem_cons, List.not_mem_nil, or_false] at m3
    rcases m3 with h | h | h
    ·exact absurd h hF
    ·exact absurd h hL
    ·exact h
   obtain ⟨r, hv, r8, n8, len8⟩ := sound_dirF (sound_node d) path _ _ _ _ h (by simp only [RS.add]; omega) (by simp only [RS.add, List.length_append, List.length_cons, List.length_nil, n3, n2, n1]; omega)
   simp only [RS.add] at r8 n8
   refine ⟨⟨path, 4, []⟩, r, rfl, ⟨rfl, .inr ⟨rfl, rfl, hv⟩⟩, ?_, ?_, len8⟩
   ·rw [r1, hm m1, r2, hm m2, r3, hD, r8, nodeR_text]
    simp
   ·rw [n8, n3, n2, n1]; simp
theorem node_of {e : Nat} {path : List UInt8} {x : Node} {r : List Node} {R : List UInt8} {ρ : RS} (hv : VN e path x r) (hr : ρ.rest = nodeR x (forest r) ++ R) (hl : ρ.nodes.length + 1 + r.length ≤ 30)
 (HS : x.kind = 4 → ∀ (f : Nat) (ρ : RS), ρ.rest = forest r ++ (putL wShut ++ R) → ρ.rest.length < f → ρ.nodes.length + r.length ≤ 30 → ∃ a, rDirF (rNode e) path f [] ρ = .ok ⟨R, a, ρ.nodes ++ r⟩) :
 ∃ a, rNode (e + 1) path ρ = .ok ⟨R, a, ρ.nodes ++ x :: r⟩ := by
 rw [nodeR_text] at hr
 simp only [List.append_assoc] at hr
 obtain ⟨p, k, da⟩ := x
 obtain ⟨h1, h2⟩ := hv
 simp only at h1 h2 HS hr
 subst h1
 unfold rNode
 rw [rWord_of hr (by decide) (by simp)]
 simp only [Except.bind]
 rw [if_neg (show ¬ ρ.nodes.length = 30 by omega), rWord_of (ρ := ⟨_, _, ρ.nodes⟩) rfl (by decide) (by simp)]
 simp only
 rcases h2 with ⟨k4, rfl, hd⟩ | ⟨rfl, rfl, hvf⟩
 ·have hk : k = 1 ∨ k = 2 ∨ k = 3 := by rcases dataB_kind hd with h | h | h | h <;> omega
  rw [if_pos hk]
  rcases hk with rfl | rfl | rfl
  ·have hl7 : da.length ≤ 100 := by simpa [dataB] using hd
   simp only [leafR, if_true, putAll, List.flatMap_cons, List.flatMap_nil, List.append_nil, List.append_assoc]
   rw [rWord_of (ρ := ⟨_, _, ρ.nodes⟩) (s := wFile) rfl (by decide) (by simp)]
   simp only
   rw [if_pos trivial]
   unfold rFile
   rw [rWord_of (ρ := ⟨_, _, ρ.nodes⟩) (s := wData) rfl (by decide) (by simp)]
   simp only [Except.bind]
   rw [if_neg (by decide), rNext_of (ρ := ⟨_, _, ρ.nodes⟩) (s := da) rfl hl7 (by omega)]
   simp only [RS.add]
   rw [rWord_of (ρ := ⟨_, _, _⟩) (s := wShut) rfl (by decide) (by simp)]
   exact ⟨_, rfl⟩
  ·have hl7 : da.length ≤ 100 := by simpa [dataB] using hd
   rw [show leafR 2 da = putAll [wFile, wExec, [], wData, da] from rfl]
   simp only [putAll, List.flatMap_cons, List.flatMap_nil, List.append_nil, List.append_assoc]
   rw [rWord_of (ρ := ⟨_, _, ρ.nodes⟩) (s := wFile) rfl (by decide) (by simp)]
   simp only
   rw [if_pos trivial]
   unfold rFile
   rw [rWord_of (ρ := ⟨_, _, ρ.nodes⟩) (s := wExec) rfl (by decide) (by simp)]
   simp only [Except.bind]
   rw [if_pos trivial, rWord_of (ρ := ⟨_, _, ρ.nodes⟩) (s := []) rfl (by decide) (by simp)]
   simp only
   rw [rWord_of (ρ := ⟨_, _, ρ.nodes⟩) (s := wData) rfl (by decide) (by simp)]
   simp only
   rw [rNext_of (ρ := ⟨_, _, ρ.nodes⟩) (s := da) rfl hl7 (by omega)]
   simp only [RS.add]
   rw [rWord_of (ρ := ⟨_, _, _⟩) (s := wShut) rfl (by decide) (by simp)]
   exact ⟨_, rfl⟩
  ·have hl7 : da.length ≤ 100 := by
    simp only [dataB, if_true, Bool.and_eq_true, decide_eq_true_eq] at hd
    exact hd.1.2
   rw [show leafR 3 da = putAll [wLink, wTo, da] from rfl]
   simp only [putAll, List.flatMap_cons, List.flatMap_nil, List.append_nil, List.append_assoc]
   rw [rWord_of (ρ := ⟨_, _, ρ.nodes⟩) (s := wLink) rfl (by decide) (by simp)]
   simp only
   rw [if_neg (by decide), if_pos trivial]
   unfold rLink
   rw [rWord_of (ρ := ⟨_, _, ρ.nodes⟩) (s := wTo) rfl (by decide) (by simp)]
   simp only [Except.bind]
   rw [rNext_of (ρ := ⟨_, _, ρ.nodes⟩) (s := da) rfl hl7 (by omega)]
   simp only
   rw [if_pos hd]
   simp only [RS.add]
   rw [rWord_of (ρ := ⟨_, _, _⟩) (s := wShut) rfl (by decide) (by simp)]
   exact ⟨_, rfl⟩
 ·rw [if_neg (by omega)]
  simp only [List.append_assoc]
  rw [rWord_of (ρ := ⟨_, _, ρ.nodes⟩) (s := wDir) rfl (by decide) (by simp)]
  simp only
  rw [if_neg (by decide), if_neg (by decide)]
  obtain ⟨a, ha⟩ := HS rfl ((forest r ++ (putL wShut ++ R)).length + 1) ((⟨forest r ++ (putL wShut ++ R), ρ.at' + (putL wOpen).length + (putL wType).length + (putL wDir).length, ρ.nodes⟩ : RS).add ⟨p, 4, []⟩) rfl (by simp only [RS.add]; omega) (by simp only [RS.add, List.length_append, List.length_cons, List.length_nil]; omega)
  refine ⟨a, ha.trans ?_⟩
  simp [RS.add]
theorem dirF_of {d : Nat} {p last : List UInt8} {r : List Node} (h : VF d p last r) : ∀ (R : List UInt8) (f : Nat) (ρ : RS), ρ.rest = forest r ++ (putL wShut ++ R) → ρ.rest.length < f → ρ.nodes.length + r.length ≤ 30 → ∃ a, rDirF (rNode d) p f last ρ = .ok ⟨R, a, ρ.nodes ++ r⟩ := by
 induction h with
 | nil d p last =>
   intro R f ρ hr hf hl
   obtain ⟨f, rfl⟩ : ∃ g, f = g + 1 := ⟨f - 1, by omega⟩
   unfold rDirF
   rw [rWord_of (s := wShut) (R := R) (by rw [hr]; rfl) (by decide) (by simp)]
   simp only [Except.bind]
   rw [if_pos trivial, List.append_nil]
   exact ⟨_, rfl⟩
 | leaf d p last s y r h1 h2 h3 h4 h5 h6 ih =>
   intro R f ρ hr hf hl
   obtain ⟨f, rfl⟩ : ∃ g, f = g + 1 := ⟨f - 1, by omega⟩
   have h48 := name_len h2
   rw [forest_leaf h1 h2 h6, entry_name h1 h2] at hr
   simp only [List.append_assoc] at hr
   have hlen := congrArg List.length hr
   simp only [List.length_append, putL_length] at hlen
   simp only [List.length_cons] at hl
   unfold rDirF
   rw [rWord_of hr (by decide) (by simp)]
   simp only [Except.bind]
   rw [if_neg (by decide), rWord_of (ρ := ⟨_, _, ρ.nodes⟩) (s := wOpen) rfl (by decide) (by simp)]
   simp only
   rw [rWord_of (ρ := ⟨_, _, ρ.nodes⟩) (s := wName) rfl (by decide) (by simp)]
   simp only
   rw [rNext_of (ρ := ⟨_, _, ρ.nodes⟩) (s := s) rfl h48 (by omega)]
   simp only
   rw [if_neg (by simp [h2]), if_neg (by simp [h3]), rWord_of (ρ := ⟨_, _, ρ.nodes⟩) (s := wNode) rfl (by decide) (by simp)]
   simp only
   obtain ⟨a, ha⟩ := node_of (e := d) (path := joinP p s) (x := y) (r := []) (R := putL [41] ++ (forest r ++ (putL wShut ++ R))) (ρ := ⟨nodeR y (forest []) ++ (putL [41] ++ (forest r ++ (putL wShut ++ R))), ρ.at' + (putL wEntry).length + (putL wOpen).length + (putL wName).length + (putL s).length + (putL wNode).length, ρ.nodes⟩) ⟨h1, .inl ⟨h4, rfl, h5⟩⟩ rfl (by simp only [List.length_nil]; omega) (fun e => absurd e h4)
   rw [ha]
   simp only
   rw [rWord_of (ρ := ⟨_, _, _⟩) (s := [41]) rfl (by decide) (by simp)]
   simp only
   obtain ⟨a2, ha2⟩ := ih R f ⟨forest r ++ (putL wShut ++ R), a + (putL [41]).length, ρ.nodes ++ [y]⟩ rfl (by simp only [List.length_append, putL_length]; omega) (by simp only [List.length_append, List.length_cons, List.length_nil]; omega)
   refine ⟨a2, ha2.trans ?_⟩
   simp
 | dir d p last s y sub r h1 h2 h3 h4 h5 h6 h7 ih1 ih2 =>
   intro R f ρ hr hf hl
   obtain ⟨f, rfl⟩ : ∃ g, f = g + 1 := ⟨f - 1, by omega⟩
   have h48 := name_len h2
   rw [forest_dir h1 h2 h6 h7, entry_name h1 h2] at hr
   simp only [List.append_assoc] at hr
   have hlen := congrArg List.length hr
   simp only [List.length_append, putL_length] at hlen
   simp only [List.length_cons, List.length_append] at hl
   unfold rDirF
   rw [rWord_of hr (by decide) (by simp)]
   simp only [Except.bind]
   rw [if_neg (by decide), rWord_of (ρ := ⟨_, _, ρ.nodes⟩) (s := wOpen) rfl (by decide) (by simp)]
   simp only
   rw [rWord_of (ρ := ⟨_, _, ρ.nodes⟩) (s := wName) rfl (by decide) (by simp)]
   simp only
   rw [rNext_of (ρ := ⟨_, _, ρ.nodes⟩) (s := s) rfl h48 (by omega)]
   simp only
   rw [if_neg (by simp [h2]), if_neg (by simp [h3]), rWord_of (ρ := ⟨_, _, ρ.nodes⟩) (s := wNode) rfl (by decide) (by simp)]
   simp only
   obtain ⟨a, ha⟩ := node_of (e := d) (path := joinP p s) (x := y) (r := sub) (R := putL [41] ++ (forest r ++ (putL wShut ++ R))) (ρ := ⟨nodeR y (forest sub) ++ (putL [41] ++ (forest r ++ (putL wShut ++ R))), ρ.at' + (putL wEntry).length + (putL wOpen).length + (putL wName).length + (putL s).length + (putL wNode).length, ρ.nodes⟩) ⟨h1, .inr ⟨h4, h5, h6⟩⟩ rfl (by simp only; omega) (fun _ f ρ hr hf hl => ih1 _ f ρ hr hf hl)
   rw [ha]
   simp only
   rw [rWord_of (ρ := ⟨_, _, _⟩) (s := [41]) rfl (by decide) (by simp)]
   simp only
   obtain ⟨a2, ha2⟩ := ih2 R f ⟨forest r ++ (putL wShut ++ R), a + (putL [41]).length, ρ.nodes ++ y :: sub⟩ rfl (by simp only [List.length_append, putL_length]; omega) (by simp only [List.length_append, List.length_cons]; omega)
   refine ⟨a2, ha2.trans ?_⟩
   simp
def BadAt (n : Nat) (e : Int × Int) : Prop := e.1 ≠ 0 ∧ 0 ≤ e.2 ∧ e.2 ≤ n ∧ (e.1 = 2 → e.2 = n)
theorem rNext_bad {m : Nat} {ρ : RS} {x : Int × Int} (h : rNext m ρ = .error x) : BadAt (ρ.at' + ρ.rest.length) x := by
 unfold rNext at h
 split at h
 ·cases h; exact ⟨by show (2 : Int) ≠ 0; decide, by simp [RS.few]; omega, by simp [RS.few], fun _ => by simp [RS.few]⟩
 ·split at h
  ·cases h; exact ⟨by show (3 : Int) ≠ 0; decide, by simp, by simp; omega, fun h => absurd (show (3 : Int) = 2 from h) (by decide)⟩
  ·split at h
   ·cases h; exact ⟨by show (2 : Int) ≠ 0; decide, by simp [RS.few]; omega, by simp [RS.few], fun _ => by simp [RS.few]⟩
   ·split at h
    ·cases h; exact ⟨by show (4 : Int) ≠ 0; decide, by simp, by simp; omega, fun h => absurd (show (4 : Int) = 2 from h) (by decide)⟩
    ·cases h
theorem rNext_all {m : Nat} {ρ : RS} {x : List UInt8 × RS} (h : rNext m ρ = .ok x) : x.2.at' + x.2.rest.length = ρ.at' + ρ.rest.length := by
 obtain ⟨h1, -, -, h4⟩ := rNext_put h
 rw [h1, h4, List.length_append]; omega
theorem rWord_all {may : List (List UInt8)} {ρ : RS} {x : List UInt8 × RS} (h : rWord may ρ = .ok x) : x.2.at' + x.2.rest.length = ρ.at' + ρ.rest.length := rNext_all (rWord_ok h).1
theorem rWord_bad {may : List (List UInt8)} {ρ : RS} {x : Int × Int} (h : rWord may ρ = .error x) : BadAt (ρ.at' + ρ.rest.length) x := by
 unfold rWord at h
 cases hn : rNext 8 ρ with
 | error e => rw [hn] at h; cases h; exact rNext_bad hn
 | ok y =>
   rw [hn] at h
   simp only [Except.bind] at h
   split at h
   ·cases h
   ·cases h; exact ⟨by show (5 : Int) ≠ 0; decide, by simp, by simp; omega, fun h => absurd (show (5 : Int) = 2 from h) (by decide)⟩
def Fair {α : Type} (n : Nat) (g : α → RS) (r : RE α) : Prop :=
 match r with
 | .error e => BadAt n e
 | .ok y => (g y).at' + (g y).rest.length = n
theorem fair_bind {α β : Type} {n : Nat} {g : α → RS} {g' : β → RS} {r : RE α} {f : α → RE β} (h : Fair n g r) (hf : ∀ y, (g y).at' + (g y).rest.length = n → Fair n g' (f y)) : Fair n g' (r.bind f) := by
 cases r with
 | error e => exact h
 | ok y => exact hf y h
theorem fair_word (may : List (List UInt8)) (ρ : RS) {n : Nat} (h : ρ.at' + ρ.rest.length = n) : Fair n Prod.snd (rWord may ρ) := by
 cases hw : rWord may ρ with
 | error e => exact h ▸ rWord_bad hw
 | ok x => exact (rWord_all hw).trans h
theorem fair_next (m : Nat) (ρ : RS) {n : Nat} (h : ρ.at' + ρ.rest.length = n) : Fair n Prod.snd (rNext m ρ) := by
 cases hw : rNext m ρ with
 | error e => exact h ▸ rNext_bad hw
 | ok x => exact (rNext_all hw).trans h
theorem fair_err {n : Nat} {e : Int} {p : Nat} (he : e ≠ 0 ∧ e ≠ 2) (hp : p ≤ n) : Fair n (id : RS → RS) (.error (e, (p : Int))) := ⟨he.1, by simp, by simpa using hp, fun h => absurd h he.2⟩
theorem fair_file (path : List UInt8) (ρ : RS) {n : Nat} (h : ρ.at' + ρ.rest.length = n) : Fair n id (rFile path ρ) := by
 unfold rFile
 refine fair_bind (fair_word _ ρ h) fun x hx => ?_
 split
 ·exact fair_bind (fair_word _ _ hx) fun y hy => fair_bind (fair_word _ _ hy) fun z hz => fair_bind (fair_next _ _ hz) fun u hu => fair_bind (fair_word _ (u.2.add _) hu) fun v hv => hv
 ·exact fair_bind (fair_next _ _ hx) fun u hu => fair_bind (fair_word _ (u.2.add _) hu) fun v hv => hv
theorem fair_link (path : List UInt8) (ρ : RS) {n : Nat} (h : ρ.at' + ρ.rest.length = n) : Fair n id (rLink path ρ) := by
 unfold rLink
 refine fair_bind (fair_word _ ρ h) fun x hx => fair_bind (fair_next _ _ hx) fun u hu => ?_
 split
 ·exact fair_bind (fair_word _ (u.2.add _) hu) fun v hv => hv
 ·exact fair_err (by decide) (by omega)
theorem fair_dirF {node : List UInt8 → RS → RE RS} {n : Nat} (hn : ∀ p ρ, ρ.at' + ρ.rest.length = n → Fair n id (node p ρ)) (path : List UInt8) : ∀ (f : Nat) (last : List UInt8) (ρ : RS), ρ.at' + ρ.rest.length = n → Fair n id (rDirF node path f last ρ)
 | 0, _, ρ, h => h
 | f + 1, last, ρ, h => by
   unfold rDirF
   refine fair_bind (fair_word _ ρ h) fun x hx => ?_
   split
   ·exact hx
   ·refine fair_bind (fair_word _ _ hx) fun y hy => fair_bind (fair_word _ _ hy) fun z hz => fair_bind (fair_next _ _ hz) fun u hu => ?_
    split
    ·exact fair_err (by decide) (by omega)
    ·split
     ·exact fair_err (by decide) (by omega)
     ·exact fair_bind (fair_word _ _ hu) fun v hv => fair_bind (hn _ _ hv) fun t ht => fair_bind (fair_word _ _ ht) fun s hs => fair_dirF hn path f _ _ hs
theorem fair_node : ∀ (d : Nat) (path : List UInt8) (ρ : RS) {n : Nat}, ρ.at' + ρ.rest.length = n → Fair n id (rNode d path ρ)
 | 0, path, ρ, n, h => by
   unfold rNode
   exact fair_bind (fair_word _ ρ h) fun x hx => fair_err (by decide) (by omega)
 | d + 1, path, ρ, n, h => by
   unfold rNode
   refine fair_bind (fair_word _ ρ h) fun x hx => ?_
   split
   ·exact fair_err (by decide) (by omega)
   ·refine fair_bind (fair_word _ _ hx) fun y hy => fair_bind (fair_word _ _ hy) fun z hz => ?_
    split
    ·exact fair_file _ _ hz
    ·split
     ·exact fair_link _ _ hz
     ·exact fair_dirF (fun p ρ h => fair_node d p ρ h) path _ _ (z.2.add _) hz
theorem dw_split {α : Type} {p : α → Bool} : ∀ (a b : List α), (∀ z ∈ a, p z = true) → (∀ z r, b = z :: r → p z = false) → (a ++ b).dropWhile p = b
 | [], b, _, hb => by
   cases b with
   | nil => rfl
   | cons z r => exact List.dropWhile_cons_of_neg (by simp [hb z r rfl])
 | x :: a, b, ha, hb => by
   rw [List.cons_append, List.dropWhile_cons_of_pos (ha x (List.mem_cons_self ..))]
   exact dw_split a b (fun z hz => ha z (List.mem_cons_of_mem _ hz)) hb
theorem popTo_deep (p l : List UInt8) (ab deep : Opens) (h : ∀ o ∈ deep, o.1 ≠ p) : popTo p (ab ++ (p, l) :: deep) = ab ++ [(p, l)] := by
 unfold popTo
 rw [List.reverse_append, List.reverse_cons, List.append_assoc, dw_split deep.reverse _ (fun z hz => by simpa using h z (List.mem_reverse.1 hz)) (fun z r e => by cases e; simp)]
 simp
theorem popTo_none (p : List UInt8) (st : Opens) (h : ∀ o ∈ st, o.1 ≠ p) : popTo p st = [] := by
 unfold popTo
 have := dw_split (p := fun o : List UInt8 × List UInt8 => o.1 != p) st.reverse [] (fun z hz => by simpa using h z (List.mem_reverse.1 hz)) (fun z r e => by cases e)
 rw [List.append_nil] at this
 rw [this]; rfl
theorem join_head {p s : List UInt8} (hp : p.head? ≠ some 47) (hs : nameB s = true) : (joinP p s).head? ≠ some 47 := by
 unfold joinP
 split
 ·intro e
  have := name_no47 hs
  cases s with
  | nil => cases e
  | cons x r => simp at e; subst e; simp at this
 ·rename_i h
  cases p with
  | nil => exact absurd rfl h
  | cons x r => simpa using hp
theorem come_deep {p l s : List UInt8} {ab deep : Opens} (hd : ∀ o ∈ deep, o.1 ≠ p) (hp : p.head? ≠ some 47) (hs : nameB s = true) (hl : leS s l = false) : comeB (joinP p s) (ab ++ (p, l) :: deep) = (true, ab ++ [(p, s)]) := by
 unfold comeB
 rw [dirOf_join p s (name_no47 hs), popTo_deep p l ab deep hd]
 simp only [List.getLast?_concat, hs, hl, Bool.not_true, Bool.false_or, Bool.or_false, List.dropLast_concat]
 rw [if_neg]
 simpa using join_head hp hs
theorem below_ne {p q : List UInt8} (h : belowB p q = true) : p ≠ q := by
 intro e
 have := below_len h
 rw [e] at this
 omega
theorem after_of_VF {d : Nat} {p last : List UInt8} {r : List Node} (h : VF d p last r) : ∀ (k : Nat) (ab deep : Opens), ab.length + 1 + d = 6 → 0 < k → k + r.length ≤ 30 → p.head? ≠ some 47 → (∀ o ∈ deep, belowB o.1 p = true) →
 ∃ (l' : List UInt8) (deep' : Opens), afterGo r k (ab ++ (p, last) :: deep) = some (ab ++ (p, l') :: deep') ∧ ∀ o ∈ deep', belowB o.1 p = true := by
 induction h with
 | nil d p last => intro k ab deep _ _ _ _ hd; exact ⟨last, deep, rfl, hd⟩
 | leaf d p last s y r h1 h2 h3 h4 h5 h6 ih =>
   intro k ab deep hab hk hkl hp hd
   simp only [List.length_cons] at hkl
   have hc := come_deep (ab := ab) (fun o ho => below_ne (hd o ho)) hp h2 h3
   rw [← h1] at hc
   have hok : nodeOk k y (ab ++ (p, last) :: deep) = some (ab ++ [(p, s)]) := by
    unfold nodeOk
    rw [hc, if_neg (by rintro (e | e); omega; rw [h5] at e; cases e), if_neg (by omega), if_pos ⟨rfl, by simp; omega⟩]
   unfold afterGo
   rw [hok]
   simp only
   rw [pushD, if_neg h4]
   exact ih (k + 1) ab [] hab (by omega) (by omega) hp (by simp)
 | dir d p last s y sub r h1 h2 h3 h4 h5 h6 h7 ih1 ih2 =>
   intro k ab deep hab hk hkl hp hd
   simp only [List.length_cons, List.length_append] at hkl
   have hc := come_deep (ab := ab) (fun o ho => below_ne (hd o ho)) hp h2 h3
   rw [← h1] at hc
   have hok : nodeOk k y (ab ++ (p, last) :: deep) = some (ab ++ [(p, s)]) := by
    unfold nodeOk
    rw [hc, if_neg (by rintro (e | e); omega; rw [h4, h5] at e; simp [dataB] at e), if_neg (by omega), if_pos ⟨rfl, by simp; omega⟩]
   unfold afterGo
   rw [hok]
   simp only
   rw [pushD, if_pos h4, afterGo_append, h1]
   obtain ⟨l1, dp1, ha1, hd1⟩ := ih1 (k + 1) (ab ++ [(p, s)]) [] (by simp; omega) (by omega) (by omega) (join_head hp h2) (by simp)
   rw [ha1]
   simp only [Option.bind_some]
   rw [List.append_assoc]
   obtain ⟨l2, dp2, ha2, hd2⟩ := ih2 (k + 1 + sub.length) ab ((joinP p s, l1) :: dp1) hab (by omega) (by omega) hp (by
    intro o ho
    rcases List.mem_cons.1 ho with rfl | ho
    ·exact below_join p s (nameB_ne h2)
    ·exact below_trans (hd1 o ho) (below_join p s (nameB_ne h2)))
   exact ⟨l2, dp2, ha2, hd2⟩
theorem VF_of_after : ∀ (n : Nat) (r : List Node), r.length ≤ n → ∀ (d : Nat) (p last : List UInt8) (k : Nat) (ab deep st' : Opens), ab.length + 1 + d = 6 → 0 < k → p.head? ≠ some 47 → (∀ o ∈ deep, belowB o.1 p = true) →
 (∀ z t, r = z :: t → (dirOf z.path).1 = p ∨ ∀ o ∈ deep, (dirOf z.path).1 ≠ o.1) → afterGo r k (ab ++ (p, last) :: deep) = some st' →
 ∃ (r1 r2 : List Node) (l' : List UInt8) (deep' : Opens), r = r1 ++ r2 ∧ VF d p last r1 ∧ (∀ o ∈ deep', belowB o.1 p = true) ∧ afterGo r2 (k + r1.length) (ab ++ (p, l') :: deep') = some st' ∧ (∀ z t, r2 = z :: t → (dirOf z.path).1 ≠ p ∧ ∀ o ∈ deep', (dirOf z.path).1 ≠ o.1)
 | _, [], _, d, p, last, k, ab, deep, st', _, _, _, hd, _, ha => ⟨[], [], last, deep, rfl, .nil _ _ _, hd, ha, fun z t e => by cases e⟩
 | 0, _ :: _, hn, _, _, _, _, _, _, _, _, _, _, _, _, _ => by simp at hn
 | n + 1, z :: t, hn, d, p, last, k, ab, deep, st', hab, hk, hp, hd, hz, ha => by
   simp only [List.length_cons] at hn
   by_cases hdir : (dirOf z.path).1 = p
   ·unfold afterGo at ha
    cases hok : nodeOk k z (ab ++ (p, last) :: deep) with
    | none => rw [hok] at ha; cases ha
    | some st2 =>
      rw [hok] at ha
      simp only at ha
      unfold nodeOk at hok
      by_cases h0 : k = 30 ∨ dataB z.kind z.data = false
      ·rw [if_pos h0] at hok; cases hok
      rw [if_neg h0, if_neg (show ¬ k = 0 by omega)] at hok
      by_cases hc : (comeB z.path (ab ++ (p, last) :: deep)).1 = true ∧ (comeB z.path (ab ++ (p, last) :: deep)).2.length ≤ 5
      ·rw [if_pos hc] at hok
       obtain rfl := Option.some.inj hok
       have hda : dataB z.kind z.data = true := by simpa using fun e => h0 (.inr e)
       have hcb : comeB z.path (ab ++ (p, last) :: deep) = if !nameB (dirOf z.path).2 || z.path.head? == some 47 || leS (dirOf z.path).2 last then (false, ab ++ [(p, last)]) else (true, ab ++ [(p, (dirOf z.path).2)]) := by
        unfold comeB
        rw [hdir, popTo_deep p last ab deep (fun o ho => below_ne (hd o ho))]
        simp only [List.getLast?_concat, List.dropLast_concat]
       rw [hcb] at hc ha
       by_cases hcond : (!nameB (dirOf z.path).2 || z.path.head? == some 47 || leS (dirOf z.path).2 last) = true
       ·rw [if_pos hcond] at hc; cases hc.1
       rw [if_neg hcond] at hc ha
       simp only [Bool.or_eq_true, not_or, Bool.not_eq_true', beq_iff_eq] at hcond
       obtain ⟨⟨c1, c2⟩, c3⟩ := hcond
       have hnm : nameB (dirOf z.path).2 = true := by simpa using c1
       have hle : leS (dirOf z.path).2 last = false := by simpa using c3
       have hzp : z.path = joinP p (dirOf z.path).2 := by
        have := (join_dirOf z.path c2).1
        rwa [hdir] at this
       generalize hs : (dirOf z.path).2 = s at *
       have hlen := hc.2
       simp only [List.length_append, List.length_cons, List.length_nil] at hlen
       obtain ⟨d', rfl⟩ : ∃ d', d = d' + 1 := ⟨d - 1, by omega⟩
       by_cases h4 : z.kind = 4
       ·have hdata : z.data = [] := by
         rw [h4] at hda
         simpa [dataB] using hda
        rw [pushD, if_pos h4, List.append_assoc, hzp] at ha
        obtain ⟨sub, t2, l1, dp1, rfl, hv1, hd1, ha1, hh1⟩ := VF_of_after n t (by omega) d' (joinP p s) [] (k + 1) (ab ++ [(p, s)]) [] st' (by simp; omega) (by omega) (join_head hp hnm) (by simp) (by intro z' t' e; right; simp) (by rw [List.append_assoc]; exact ha)
        rw [List.append_assoc] at ha1
        simp only [List.length_append] at hn
        obtain ⟨r1, r2, l2, dp2, rfl, hv2, hd2, ha2, hh2⟩ := VF_of_after n t2 (by omega) (d' + 1) p s (k + 1 + sub.length) ab ((joinP p s, l1) :: dp1) st' hab (by omega) hp (by
         intro o ho
         rcases List.mem_cons.1 ho with rfl | ho
         ·exact below_join p _ (nameB_ne hnm)
         ·exact below_trans (hd1 o ho) (below_join p _ (nameB_ne hnm))) (by
         intro z' t' e
         right
         intro o ho
         obtain ⟨q1, q2⟩ := hh1 z' t' e
         rcases List.mem_cons.1 ho with rfl | ho
         ·exact q1
         ·exact q2 o ho) ha1
        refine ⟨z :: (sub ++ r1), r2, l2, dp2, by simp, .dir d' p last _ z sub r1 hzp hnm hle h4 hdata hv1 hv2, hd2, ?_, hh2⟩
        rw [show k + (z :: (sub ++ r1)).length = k + 1 + sub.length + r1.length by simp; omega]
        exact ha2
       ·rw [pushD, if_neg h4] at ha
        obtain ⟨r1, r2, l2, dp2, rfl, hv2, hd2, ha2, hh2⟩ := VF_of_after n t (by omega) (d' + 1) p s (k + 1) ab [] st' hab (by omega) hp (by simp) (by intro z' t' e; right; simp) ha
        refine ⟨z :: r1, r2, l2, dp2, by simp, .leaf d' p last _ z r1 hzp hnm hle h4 hda hv2, hd2, ?_, hh2⟩
        rw [show k + (z :: r1).length = k + 1 + r1.length by simp; omega]
        exact ha2
      ·rw [if_neg hc] at hok; cases hok
   ·refine ⟨[], z :: t, last, deep, rfl, .nil _ _ _, hd, ha, fun z' t' e => ?_⟩
    cases e
    exact ⟨hdir, (hz z t rfl).resolve_left hdir⟩
theorem after_len : ∀ (r : List Node) (k : Nat) (st st' : Opens), afterGo r k st = some st' → k ≤ 30 → k + r.length ≤ 30
 | [], k, _, _, _, h => by simpa using h
 | n :: r, k, st, st', ha, h => by
   unfold afterGo at ha
   cases hok : nodeOk k n st with
   | none => rw [hok] at ha; cases ha
   | some s2 =>
     rw [hok] at ha
     have hk : k ≠ 30 := by
      rintro rfl
      unfold nodeOk at hok
      rw [if_pos (.inl rfl)] at hok
      cases hok
     have := after_len r (k + 1) _ _ ha (by omega)
     simp only [List.length_cons]
     omega
theorem VN_of_wrong {l : List Node} (h : wrongL l = -1) : ∃ x r, l = x :: r ∧ VN 5 [] x r ∧ l.length ≤ 30 := by
 have hne : l ≠ [] := by rintro rfl; simp [wrongL] at h
 have ha := (wrongL_after hne).1 h
 obtain ⟨st', ha⟩ := Option.isSome_iff_exists.1 ha
 have hlen := after_len _ _ _ _ ha (by omega)
 obtain ⟨x, r, rfl⟩ := List.exists_cons_of_ne_nil hne
 refine ⟨x, r, rfl, ?_, by omega⟩
 unfold afterGo at ha
 cases hok : nodeOk 0 x [] with
 | none => rw [hok] at ha; cases ha
 | some st2 =>
   rw [hok] at ha
   simp only at ha
   unfold nodeOk at hok
   by_cases h0 : 0 = 30 ∨ dataB x.kind x.data = false
   ·rw [if_pos h0] at hok; cases hok
   rw [if_neg h0, if_pos rfl] at hok
   have hda : dataB x.kind x.data = true := by simpa using fun e => h0 (.inr e)
   by_cases hp : x.path = [] ∧ ([] : Opens).length ≤ 5
   ·rw [if_pos hp] at hok
    obtain rfl := Option.some.inj hok
    refine ⟨hp.1, ?_⟩
    by_cases h4 : x.kind = 4
    ·right
     have hdata : x.data = [] := by rw [h4] at hda; simpa [dataB] using hda
     rw [pushD, if_pos h4, hp.1] at ha
     obtain ⟨r1, r2, l2, dp2, hr, hv, hd2, ha2, hh2⟩ := VF_of_after r.length r (Nat.le_refl _) 5 [] [] 1 [] [] st' rfl (by omega) (by simp) (by simp) (by intro z t e; right; simp) ha
     cases r2 with
     | nil =>
       rw [List.append_nil] at hr
       subst hr
       exact ⟨h4, hdata, hv⟩
     | cons z t =>
       exfalso
       obtain ⟨q1, q2⟩ := hh2 z t rfl
       unfold afterGo at ha2
       have hcn : comeB z.path ([] ++ (([] : List UInt8), l2) :: dp2) = (false, []) := comeB_nil (popTo_none _ _ (by
        intro o ho
        rcases List.mem_cons.1 ho with rfl | ho
        ·exact fun e => q1 e.symm
        ·exact fun e => q2 o ho e.symm))
       have hno : nodeOk (1 + r1.length) z ([] ++ (([] : List UInt8), l2) :: dp2) = none := by
        unfold nodeOk
        split
        ·rfl
        ·rw [if_neg (by omega), hcn, if_neg (by rintro ⟨e, -⟩; cases e)]
       rw [hno] at ha2
       cases ha2
    ·left
     refine ⟨h4, ?_, hda⟩
     rw [pushD, if_neg h4] at ha
     cases r with
     | nil => rfl
     | cons z t =>
       exfalso
       unfold afterGo at ha
       have hcn : comeB z.path [] = (false, []) := comeB_nil rfl
       have hno : nodeOk 1 z [] = none := by
        unfold nodeOk
        split
        ·rfl
        ·rw [if_neg (by omega), hcn, if_neg (by rintro ⟨e, -⟩; cases e)]
       rw [hno] at ha
       cases ha
   ·rw [if_neg hp] at hok; cases hok
theorem wrong_of_VN {x : Node} {r : List Node} (h : VN 5 [] x r) (hl : (x :: r).length ≤ 30) : wrongL (x :: r) = -1 := by
 obtain ⟨hp, h2⟩ := h
 rw [wrongL_after (by simp)]
 simp only [List.length_cons] at hl
 have hda : dataB x.kind x.data = true := by
  rcases h2 with ⟨_, _, h⟩ | ⟨h4, hd, _⟩
  ·exact h
  ·rw [h4, hd]; simp [dataB]
 have hok : nodeOk 0 x [] = some [] := by
  unfold nodeOk
  rw [if_neg (by rintro (e | e); omega; rw [hda] at e; cases e), if_pos rfl, if_pos ⟨hp, by simp⟩]
 unfold afterGo
 rw [hok]
 simp only
 rcases h2 with ⟨h4, rfl, _⟩ | ⟨h4, hd, hv⟩
 ·rfl
 ·rw [pushD, if_pos h4, hp]
  obtain ⟨l', dp, ha, -⟩ := after_of_VF hv 1 [] [] rfl (by omega) (by omega) (by simp) (by simp)
  rw [show ([] : Opens) ++ [([], [])] = [] ++ (([] : List UInt8), ([] : List UInt8)) :: [] from rfl, ha]
  rfl
theorem read_pack {l : List Node} (h : wrongL l = -1) : readL (packP l) = (l, 0, 0) := by
 obtain ⟨x, r, rfl, hv, hl⟩ := VN_of_wrong h
 rw [pack_ref h]
 unfold readL rTree
 rw [rWord_of (ρ := ⟨_, 0, []⟩) (s := wNar) (R := refPackL (x :: r)) rfl (by decide) (by simp)]
 simp only [Except.bind]
 obtain ⟨a, ha⟩ := node_of (e := 5) (path := []) (x := x) (r := r) (R := []) (ρ := ⟨refPackL (x :: r), 0 + (putL wNar).length, []⟩) hv (by rw [List.append_nil]; rfl) (by simp only [List.length_cons, List.length_nil] at hl ⊢; omega) (fun h4 f ρ hr hf hn => by
  rcases hv.2 with ⟨k, _⟩ | ⟨_, _, hvf⟩
  ·exact absurd h4 k
  ·exact dirF_of hvf [] f ρ hr hf hn)
 rw [ha]
 rfl
end Go.Proofs.YtdkogijdfgfpeaaGreatDoor
