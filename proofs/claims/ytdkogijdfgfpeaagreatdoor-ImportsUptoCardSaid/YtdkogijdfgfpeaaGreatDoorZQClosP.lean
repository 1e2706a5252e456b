/- Plain: what the document's Closure gathers and tells. -/
import Derived.Test.YtdkogijdfgfpeaaGreatDoorZClosP
import Derived.Test.YtdkogijdfgfpeaaGreatDoorZClosW
import Derived.Test.YtdkogijdfgfpeaaGreatDoorZMap
import Derived.Test.YtdkogijdfgfpeaaGreatDoorZPackw
import Derived.Test.YtdkogijdfgfpeaaGreatDoorZGet
import Derived.Test.YtdkogijdfgfpeaaGreatDoorZStr
import Derived.Deep.RegionHeld3
set_option linter.unusedVariables false
namespace Go.Proofs.YtdkogijdfgfpeaaGreatDoor
open Go Go.RowKit
set_option maxHeartbeats 3200000
set_option maxRecDepth 100000
structure vk(L:aH)(roots ext:List (List UInt8))(k j:Nat):Prop where
 ents:∀p∈roots++ext,∃e∈L,e.path=p
 least:∀X,KO L X→(∀r∈roots,X r)→∀p∈roots++ext,X p
 shut:∀i p,i<k→(roots++ext)[i]? =some p→∀e∈L,e.path=p→∀r∈e.refs,r∈roots++ext
 part:∀p,(roots++ext)[k]? =some p→∀e∈L,e.path=p→∀r∈e.refs.take j,r∈roots++ext
 once:ext.Nodup
theorem vk.len{L:aH}{roots ext:List (List UInt8)}{k j:Nat}(h:vk L roots ext k j):ext.length≤L.length:=by
 have:=qy ext (L.map dI.path) h.once fun p hp=>by
  obtain⟨e,he,oz⟩:=h.ents p (List.mem_append.2 (.inr hp))
  exact List.mem_map.2 ⟨e,he,oz⟩
 simpa using this
theorem vk.start{L:aH}{roots:List (List UInt8)}(h:∀r∈roots,(aA L r).isSome=true):vk L roots [] 0 0:=
 ⟨fun p hp=>by rw[List.append_nil] at hp;exact dH.1 (h p hp),fun X _ hr p hp=>by rw[List.append_nil] at hp;exact hr p hp,fun i p hi=>by omega,fun p _ e _ _ r hr=>by simp at hr,by simp⟩
theorem vk.pass{L:aH}{roots ext:List (List UInt8)}{k j:Nat}{e:dI}{r:List UInt8}(h:vk L roots ext k j)(hok:bK L)(he:e∈L)(hk:(roots++ext)[k]? =some e.path)(hr:e.refs[j]? =some r)(hin:r∈roots++ext):vk L roots ext k (j+1):=by
 refine⟨h.ents,h.least,h.shut,fun p hp e' he' oz r' hr'=>?_,h.once⟩
 rw[hk,Option.some.injEq] at hp
 have:=hok.uniq he' he (oz.trans hp.symm)
 subst this
 rw[List.take_add_one,hr,List.mem_append] at hr'
 rcases hr' with hr'|hr'
 ·exact h.part _ hk e' he rfl r' hr'
 ·simp only[Option.toList_some,List.mem_singleton] at hr'
  rw[hr']
  exact hin
theorem vk.more{L:aH}{roots ext:List (List UInt8)}{k j:Nat}{e:dI}{r:List UInt8}(h:vk L roots ext k j)(hok:bK L)(he:e∈L)(hk:(roots++ext)[k]? =some e.path)(hr:e.refs[j]? =some r)(hin:r∉roots++ext):vk L roots (ext++[r]) k (j+1):=by
 have hkl:k<(roots++ext).length:=(List.getElem?_eq_some_iff.1 hk).1
 have Ed:roots++(ext++[r])=(roots++ext)++[r]:=by simp
 have hrm:=List.mem_of_getElem? hr
 have hsub:∀x,x∈roots++ext→x∈roots++(ext++[r]):=fun x hx=>by rw[Ed];exact List.mem_append.2 (.inl hx)
 have hat:∀i,i≤k→(roots++(ext++[r]))[i]? =(roots++ext)[i]? :=fun i hi=>by rw[Ed,List.getElem?_append_left (by omega)]
 refine⟨fun p hp=>?_,fun X hs hX p hp=>?_,fun i p hi hp e' he' oz r' hr'=>?_,fun p hp e' he' oz r' hr'=>?_,?_⟩
 ·rw[Ed] at hp
  rcases List.mem_append.1 hp with hp|hp
  ·exact h.ents p hp
  ·rw[List.mem_singleton.1 hp]
   exact dH.1 (hok.has e he r hrm)
 ·rw[Ed] at hp
  rcases List.mem_append.1 hp with hp|hp
  ·exact h.least X hs hX p hp
  ·rw[List.mem_singleton.1 hp]
   exact hs e he (h.least X hs hX _ (List.mem_of_getElem? hk)) r hrm
 ·rw[hat i (by omega)] at hp
  exact hsub _ (h.shut i p hi hp e' he' oz r' hr')
 ·rw[hat k (Nat.le_refl _)] at hp
  rw[hk,Option.some.injEq] at hp
  have:=hok.uniq he' he (oz.trans hp.symm)
  subst this
  rw[List.take_add_one,hr,List.mem_append] at hr'
  rcases hr' with hr'|hr'
  ·exact hsub _ (h.part _ hk e' he rfl r' hr')
  ·simp only[Option.toList_some,List.mem_singleton] at hr'
   rw[hr',Ed]
   simp
 ·rw[List.nodup_append]
  exact⟨h.once,by simp,fun a ha b hb e2=>hin (by rw[List.mem_singleton] at hb;rw[←hb,←e2];exact List.mem_append.2 (.inr ha))⟩
theorem vk.next{L:aH}{roots ext:List (List UInt8)}{k j:Nat}{e:dI}(h:vk L roots ext k j)(hok:bK L)(he:e∈L)(hk:(roots++ext)[k]? =some e.path)(hj:j=e.refs.length):vk L roots ext (k+1) 0:=by
 subst hj
 refine⟨h.ents,h.least,fun i p hi hp e' he' oz r' hr'=>?_,fun p _ e _ _ r hr=>by simp at hr,h.once⟩
 by_cases hik:i<k
 ·exact h.shut i p hik hp e' he' oz r' hr'
 ·have:i=k:=by omega
  subst this
  rw[hk,Option.some.injEq] at hp
  have:=hok.uniq he' he (oz.trans hp.symm)
  subst this
  exact h.part _ hk e' he rfl r' (by rw[List.take_length];exact hr')
theorem vk.same{L:aH}{roots ext K:List (List UInt8)}{k j:Nat}(h:vk L roots ext k j)(hk:k=(roots++ext).length)(hR:rO L roots K)(hok:bK L):jO L (roots++ext)=jO L K:=by
 refine DR (fun p=>?_) _ _
 have h1:p∈roots++ext↔p∈K:=by
  constructor
  ·exact h.least (· ∈K) (fun e he hp r hr=>by
    obtain⟨e',he',oz,hre⟩:=hR.keys _ hp
    have:=hok.uniq he' he oz
    subst this
    exact hre r hr) hR.has p
  ·exact hR.least (· ∈roots++ext) (fun e he hp r hr=>by
    obtain⟨i,hi,hip⟩:=List.getElem_of_mem hp
    exact h.shut i e.path (by omega) (by rw[List.getElem?_eq_getElem hi,hip]) e he rfl r hr) (fun r hr=>List.mem_append.2 (.inl hr)) p
 rw[Bool.eq_iff_iff,List.contains_iff_mem,List.contains_iff_mem]
 exact h1
structure zo(L:aH)(all out:List (List UInt8))(i:Nat):Prop where
 told:Told L all out
 DV:jO L all=qO L all (L.length+1-out.length) out
 seen:∀e∈L.take i,iK L all out e=false
theorem zo.start(L:aH)(all:List (List UInt8)):zo L all [] 0:=⟨Told.nil _ _,by simp[jO],by simp⟩
theorem zo.pass{L:aH}{all out:List (List UInt8)}{i:Nat}{e:dI}(h:zo L all out i)(he:L[i]? =some e)(hr:iK L all out e=false):zo L all out (i+1):=⟨h.told,h.DV,fun e' he'=>by
 rw[List.take_add_one,he,List.mem_append] at he'
 rcases he' with he'|he'
 ·exact h.seen e' he'
 ·simp only[Option.toList_some,List.mem_singleton] at he'
  rw[he']
  exact hr⟩
theorem zo.tell{L:aH}{all out:List (List UInt8)}{i:Nat}{e:dI}(h:zo L all out i)(he:L[i]? =some e)(hr:iK L all out e=true):zo L all (out++[e.path]) 0:=by
 have hel:=List.mem_of_getElem? he
 have hf:L.find? (iK L all out)=some e:=by
  obtain⟨hi,hie⟩:=List.getElem?_eq_some_iff.1 he
  refine List.find?_eq_some_iff_append.2 ⟨hr,L.take i,L.drop (i+1),?_,fun y hy=>by simp[h.seen y hy]⟩
  rw[←hie,←List.drop_eq_getElem_cons hi,List.take_append_drop]
 refine⟨h.told.step hel hr,?_,by simp⟩
 rw[h.DV]
 obtain⟨f,hf2⟩:∃f,L.length+1-out.length=f+1:=⟨L.length-out.length,by have:=kN h.told;omega⟩
 rw[hf2,qO,hf]
 simp only[List.length_append,List.length_singleton]
 congr 1
 omega
theorem zo.done{L:aH}{all out:List (List UInt8)}{i:Nat}(h:zo L all out i)(hi:i=L.length):out=jO L all:=by
 subst hi
 have hs:=h.seen
 rw[List.take_length] at hs
 rw[h.DV]
 obtain⟨f,hf2⟩:∃f,L.length+1-out.length=f+1:=⟨L.length-out.length,by have:=kN h.told;omega⟩
 rw[hf2,qO,List.find?_eq_none.2 fun e he hr=>by rw[hs e he] at hr;cases hr]
def He(w:World)(L:aH)(roots:List (List UInt8))(ed:Ending)(w':World):Prop:=
 ((∃r∈roots,aA L r=none)∧ed=.returned (.tuple #[.slice none 0 0,.int .i64 15])∧Keeps Non w w')∨
 ((∀r∈roots,(aA L r).isSome=true)∧∀K,rO L roots K→∃v,ed=.returned (.tuple #[v,.int .i64 0])∧Sl w' w.heap.size 9 1 v (jO L K).length (bf (jO L K))∧Keeps Non w w')
theorem zq{G:Nat→Prop}{r:Nat}{L:aH}(w:World)(h:CO w G r L)(hok:bK L)(hfl:∀e∈L,mM e)(roots:List (List UInt8))(vr:Value)(hr:Rd w 1 vr roots.length (bf roots))(hrl:roots.length≤1099511627776):
 Calls Tryz.prog 67 #[pv r,vr] w (He w L roots):=by
 obtain⟨vq,T,g1,g2⟩:=h.mem
 obtain⟨qa,qc,rfl,hq1,hq2⟩:=g2.sl.shape
 have Cc:=Lib.hid g2
 have OA:=Lib.hid g1
 have yM:Hid (T.length=L.length):=g2.len
 have vg:=Lib.hid hok
 have Rq:=Lib.hid hfl
 have HR:=Lib.hid hr
 have aaB:T.length≤10:=by have:=g2.len;have:=hok.ten;omega
 obtain⟨va,vc,rfl,hc1,hc2⟩:=hr.shape
 unfold maxLen at hq2 hc2
 clear h hok hfl hr g1 g2
 unfold pv
 go_enter Tryz.func67,Tryz.ntmps67
 go_wp2_with fail
 go_loopg [6,21] roots.length (fun gk av iv wr=>∃k:Nat,gk=roots.length-k∧k≤roots.length∧iv=.int .i64 k∧Hid (Keeps Non w wr)∧Hid (∀x∈roots.take k,(aA L x).isSome=true)∧Hid (Sl wr w.heap.size 9 1 av k (bf (roots.take k))))
 case atStart=>exact⟨0,rfl,Nat.zero_le _,rfl,Keeps.refl _ _,by show ∀x∈_,_;simp,Sl.nil _ _ _ _⟩
 case round=>
  obtain⟨k,rfl,hk,rfl,HK,HF,HA⟩:=hrel
  obtain⟨aa,ac,rfl,-,-⟩:=HA.out.shape
  by_cases hlt:k<roots.length
  ·have cr:=(OA.out.keeps HK.out fun h=>h).cell 0
   simp only[List.getElem?_toArray,List.getElem?_cons_zero] at cr
   obtain⟨b,off,cp,hsh,-,-,-,hbl,hc,-⟩:=(HR.out.non HK.out).pos (by omega)
   cases hsh
   have d0:wr.cell? ⟨b,off+k,none⟩=some (sv roots[k]):=(hc k (by omega)).trans (dJ roots k hlt)
   have HX:Hid (roots[k]? =some roots[k]∧roots[k]∈roots):=⟨List.getElem?_eq_getElem hlt,List.getElem_mem _⟩
   clear hc
   generalize roots[k]=x at *
   unfold sv at d0
   have oO:=(Cc.out.non HK.out).at ⟨x.toArray⟩
   rcases lN L x with⟨hf,hi⟩|⟨i,e,-,-,-,hi,-,hf⟩
   ·have wX:=Lib.hid hf
    have hi2:sS (L.map dI.path) (⟨x.toArray⟩:ByteArray).data.toList= -1:=hi
    rw[hi2] at oO
    have HAT:=Lib.hid oO
    clear oO hi hi2 hf
    go_wp2_with fail
    refine HAT.out.mono ?_
    rintro ed w6 ⟨rfl,hk6⟩
    have yU:Hid (Keeps Non w w6):=HK.out.trans hk6 fun _ h=>h.elim
    clear hk6 cr d0
    go_wp2_with fail
    refine bodyPost_ret (v:=.tuple #[.slice none 0 0,.int .i64 15]) (by simp[results,Tryz.results67,go_sem]) rfl ?_
    exact .inl ⟨⟨x,HX.out.2,wX.out⟩,rfl,yU.out⟩
   ·have wX:=Lib.hid hf
    have hi2:sS (L.map dI.path) (⟨x.toArray⟩:ByteArray).data.toList=(i:Int):=hi
    rw[hi2] at oO
    have HAT:=Lib.hid oO
    have dn:decide ((i:Int)<0)=false:=decide_eq_false (by omega)
    clear oO hi hi2 hf
    go_wp2_with fail
    refine HAT.out.mono ?_
    rintro ed w6 ⟨rfl,hk6⟩
    have yU:Hid (Keeps Non w w6):=HK.out.trans hk6 fun _ h=>h.elim
    have HA6:=Lib.hid (HA.out.keep fun b c _ _ hbk=>hbk.keeps hk6 fun h=>h)
    clear hk6 cr d0
    obtain⟨i1,hj,hj0,hj1,hj2⟩:=info_parts lM
    have hsl:=HA6.out
    have hsz:=yU.out.size
    go_wp2_with (at_builtin;refine ay rfl _ _ 26 26 rfl 9 i1 _ 1 16 Tryz.underlying26 hj hj0 hj1 hj2 rfl w.heap.size _ _ _ rfl _ rfl 1 (bf [x]) ?d11 (hsl.alloc _) ?d12 ?d13 ?Gg ?_)
    try (case d11=>simp;omega)
    case d12=>exact Src.kP Tryz.underlying26 (Sl.dM w6 0 (Nat.zero_le _) 9 1 1 [.string ⟨x.toArray⟩] rfl (by simp[maxLen])) (by intro u hu;simp only[bf,sv,List.map,List.mem_cons,List.not_mem_nil,or_false] at hu;subst hu;rfl)
    case d13=>unfold maxLen;omega
    case Gg=>omega
    intro ao cc w8 hs8 hk8 uG hb8
    have KR:Hid (Sl w8 w.heap.size 9 1 (.slice ao (k+1) cc) (k+1) (bf (roots.take (k+1)))):=by
     show Sl _ _ _ _ _ _ _
     have:bf (roots.take (k+1))=bf (roots.take k)++bf [x]:=by
      rw[List.take_add_one,HX.out.1]
      simp[bf]
     rw[this]
     exact hs8
    have Ce:Hid (Keeps Non w w8):=(yU.out.alloc _).trans uG fun j hj=>.inr (hsl.own j hj).1
    clear hs8 hk8 uG hb8 hsl hsz hj hj0 hj1 hj2
    go_wp2_with fail
    go_roundg (roots.length-(k+1))
    case measure=>omega
    case rel=>
     refine⟨k+1,rfl,by omega,by go_num,Ce,?_,KR⟩
     show ∀y∈_,_
     intro y hy
     rw[List.take_add_one,HX.out.1,List.mem_append] at hy
     rcases hy with hy|hy
     ·exact HF.out y hy
     ·simp only[Option.toList_some,List.mem_singleton] at hy
      rw[hy]
      exact wX.out
  ·have hk2:roots.length=k:=by omega
   subst hk2
   have KD:Hid (∀x∈roots,(aA L x).isSome=true):=by
    have h1:=HF.out
    rw[List.take_length] at h1
    exact h1
   have Ui:=Lib.hid (vk.start KD.out)
   have HS0:Hid (Sl wr w.heap.size 9 1 (.slice aa roots.length ac) (roots++[]).length (bf (roots++[]))):=by
    have h1:=HA.out
    rw[List.take_length] at h1
    show Sl _ _ _ _ _ _ _
    rw[List.append_nil]
    exact h1
   clear HF HA
   go_wp2_with fail
   go_loopg [6,9] (roots.length+L.length+1) (fun gk av iv wr=>∃(k:Nat) (ext:List (List UInt8)),gk=roots.length+L.length+1-k∧k≤(roots++ext).length∧iv=.int .i64 k∧Hid (Keeps Non w wr)∧Hid (vk L roots ext k 0)∧Hid (Sl wr w.heap.size 9 1 av (roots++ext).length (bf (roots++ext))))
   case atStart=>exact⟨0,[],rfl,Nat.zero_le _,rfl,HK,Ui,HS0⟩
   case round=>
    clear HK Ui HS0
    obtain⟨k,ext,rfl,hk,rfl,HK,HQA,HA⟩:=hrel
    have adq:=HQA.out.len
    have hall:(roots++ext).length=roots.length+ext.length:=by simp
    obtain⟨al,hal⟩:∃al,al=(roots++ext).length:=⟨_,rfl⟩
    rw[←hal] at HA hk
    obtain⟨aa,ac,rfl,-,-⟩:=HA.out.shape
    by_cases hlt:k<al
    ·have hlt':k<(roots++ext).length:=by omega
     obtain⟨p,hp⟩:∃p,(roots++ext)[k]? =some p:=⟨_,List.getElem?_eq_getElem hlt'⟩
     have hpm:=List.mem_of_getElem? hp
     obtain⟨e,hel,oz⟩:=HQA.out.ents p hpm
     subst oz
     have HP:=Lib.hid hp
     have GI:=Lib.hid hel
     have hfe:aA L e.path≠none:=fun hf=>gB.1 hf e hel rfl
     rcases lN L e.path with⟨hf,-⟩|⟨i,e',hLi,hel',hep',hi,hil,-⟩
     ·exact absurd hf hfe
     have:=vg.out.uniq hel' hel hep'
     subst this
     have hQ:=Cc.out.non HK.out
     have hiT:i<T.length:=by rw[yM.out];exact hil
     obtain⟨x,hx⟩:∃x,T[i]? =some x:=⟨_,List.getElem?_eq_getElem hiT⟩
     have hX:=hQ.ents i e' x hLi hx
     obtain⟨b,off,cp,hsh,-,-,-,hbl,hcc,-⟩:=hQ.rd.pos (by omega)
     cases hsh
     obtain⟨t1,t2,t3⟩:=o9 T i x hx
     have c2:=(hcc (i*3+2) (by omega)).trans t3
     obtain⟨x0,x1,x2⟩:=x
     simp only at c2
     obtain⟨yO,yP,hx2,aho,aa0⟩:=hX.refs.shape
     simp only at hx2
     subst hx2
     unfold maxLen at aa0
     have alD:L.length≤10:=vg.out.ten
     rw[←Nat.add_assoc] at c2
     obtain⟨ab,ao,ac',hsh,-,-,-,ahp,hac,-⟩:=HA.out.rd.pos (by omega)
     cases hsh
     have c3:wr.cell? ⟨ab,ao+k,none⟩=some (sv e'.path):=(hac k (by omega)).trans (by simp only[bf,List.getElem?_map,hp];rfl)
     unfold sv at c3
     have hr0:=OA.out.keeps HK.out fun h=>h
     have iD:Hid (∀wx,Keeps Non wr wx→wx.cell? ⟨r,0,none⟩=some (.slice (some ⟨b,off,none⟩) T.length qc)∧wx.cell? ⟨b,off+i*3+2,none⟩=some (.slice yO e'.refs.length yP)∧wx.cell? ⟨ab,ao+k,none⟩=some (.string ⟨e'.path.toArray⟩)):=fun wx hk=>by
      have h1:=(hr0.keeps hk fun h=>h).cell 0
      simp only[List.getElem?_toArray,List.getElem?_cons_zero] at h1
      refine⟨h1,?_,?_⟩
      ·rw[World.cell?,hk.block b hbl fun h=>h]
       exact c2
      ·rw[World.cell?,hk.block ab ahp fun h=>h]
       exact c3
     have HAT:Hid (∀wx,Keeps Non wr wx→Calls Tryz.prog 98 #[.slice (some ⟨b,off,none⟩) T.length qc,.string ⟨e'.path.toArray⟩] wx fun ed w'=>ed=.returned (.int .i64 (i:Int))∧Keeps Non wx w'):=fun wx hk=>by
      have h1:=(hQ.non hk).at ⟨e'.path.toArray⟩
      have h2:sS (L.map dI.path) (⟨e'.path.toArray⟩:ByteArray).data.toList=(i:Int):=hi
      rw[h2] at h1
      exact h1
     have KX:Hid (Rd w 1 (.slice yO e'.refs.length yP) e'.refs.length (bf e'.refs)):=(Cc.out.ents i e' _ hLi hx).refs
     have HFR:=Lib.hid (Rq.out e' hel)
     obtain⟨q0,q1,q2⟩:=iD.out wr (Keeps.refl _ _)
     have p1:(0:Int)≤(i:Int):=by omega
     have p2:(i:Int)<(T.length:Int):=by omega
     have p3:(0:Int)≤(k:Int):=by omega
     have p4:(k:Int)<(al:Int):=by omega
     have HAL:=Lib.hid hal
     clear hQ hX hcc t1 t2 t3 c2 c3 hac hr0 hx hLi hel' hep' hi hfe hel hp hpm hal hall hlt'
     go_upto_region 12 with(fail)
     have hc:Keeps Non wr wr:=Keeps.refl _ _
     go_region_held3 (fun w'=>w'.cell? ⟨r,0,none⟩=some (.slice (some ⟨b,off,none⟩) T.length qc)∧w'.cell? ⟨b,off+i*3+2,none⟩=some (.slice yO e'.refs.length yP)∧w'.cell? ⟨ab,ao+k,none⟩=some (.string ⟨e'.path.toArray⟩)) (first|exact⟨q0,q1,q2⟩|exact iD.out _ hc|exact iD.out _ hc.drew) (first
      |(go_at_call 98
        refine(HAT.out _ (by first|exact hc|exact hc.drew)).mono ?_
        rintro ed w' ⟨rfl,hk⟩
        replace hc:=Keeps.tn hc (by first|exact hk|exact hk.un)
        clear hk
        obtain⟨q0,q1,q2⟩:=iD.out _ hc))
     have Uj:=Lib.hid hc
     clear hc q0 q1 q2 HAT iD p1 p2 p3 p4
     generalize w'=w6 at *
     have yU:Hid (Keeps Non w w6):=HK.out.tn Uj.out
     have HA6:Hid (Sl w6 w.heap.size 9 1 (.slice (some ⟨ab,ao,none⟩) al ac) (roots++ext).length (bf (roots++ext))):=by
      have h1:=HA.out.keep fun b c _ _ hbk=>hbk.keeps Uj.out fun h=>h
      rw[←HAL.out]
      exact h1
     go_wp2_with fail
     go_loopg [6,60] e'.refs.length (fun gk av iv wq=>∃(j:Nat) (ext':List (List UInt8)),gk=e'.refs.length-j∧j≤e'.refs.length∧iv=.int .i64 j∧Hid (Keeps Non w wq)∧Hid (vk L roots ext' k j∧(roots++ext')[k]? =some e'.path)∧Hid (Sl wq w.heap.size 9 1 av (roots++ext').length (bf (roots++ext'))))
     case atStart=>exact⟨0,ext,rfl,Nat.zero_le _,rfl,yU,⟨HQA.out,HP.out⟩,HA6⟩
     case round=>
      obtain⟨j,ext',rfl,hj,rfl,Yb,Uk,HAq⟩:=hrel
      obtain⟨ql,Ul⟩:∃ql,ql=(roots++ext').length:=⟨_,rfl⟩
      rw[←Ul] at HAq
      obtain⟨aq,cq,rfl,hcq1,alE⟩:=HAq.out.shape
      have YR:ql≤roots.length+10:=by
       have h1:=Uk.out.1.len
       have h2:=vg.out.ten
       rw[Ul,List.length_append]
       omega
      have RN:=Lib.hid Ul
      clear Ul
      by_cases hjl:j<e'.refs.length
      ·obtain⟨fb',fo,fc,hsh,-,-,-,hfb,hfc,-⟩:=(KX.out.non Yb.out).pos (by omega)
       cases hsh
       have d0:=(hfc j (by omega)).trans (dJ e'.refs j hjl)
       have HX:Hid (e'.refs[j]? =some e'.refs[j]):=List.getElem?_eq_getElem hjl
       clear hfc
       generalize e'.refs[j]=x at *
       unfold sv at d0
       have YS:=I5 (roots++ext') (.slice aq ql cq) ⟨x.toArray⟩ wr (by rw[←RN.out];exact HAq.out.rd)
       by_cases hin:x∈roots++ext'
       ·have oG:Hid (Calls Tryz.prog 103 #[.slice aq ql cq,.string ⟨x.toArray⟩] wr fun ed w'=>ed=.returned (.bool true)∧wr=w'):=YS.mono (by rintro ed w' ⟨rfl,rfl⟩;exact⟨aF (decide_eq_true (by simpa using hin)),rfl⟩)
        have Qv:=Lib.hid (Uk.out.1.pass vg.out GI.out Uk.out.2 HX.out hin)
        clear YS hin
        go_wp2_with fail
        refine oG.out.mono ?_
        rintro ed w9 ⟨rfl,rfl⟩
        go_wp2_with fail
        go_roundg (e'.refs.length-(j+1))
        case measure=>omega
        case rel=>exact⟨j+1,ext',rfl,by omega,by go_num,Yb,⟨Qv.out,Uk.out.2⟩,by rw[←RN.out];exact HAq⟩
       ·have oG:Hid (Calls Tryz.prog 103 #[.slice aq ql cq,.string ⟨x.toArray⟩] wr fun ed w'=>ed=.returned (.bool false)∧wr=w'):=YS.mono (by rintro ed w' ⟨rfl,rfl⟩;exact⟨aF (decide_eq_false (by simpa using hin)),rfl⟩)
        have Qv:=Lib.hid (Uk.out.1.more vg.out GI.out Uk.out.2 HX.out hin)
        have HP2:Hid ((roots++(ext'++[x]))[k]? =some e'.path):=by
         show _=_
         rw[←List.append_assoc,List.getElem?_append_left (List.getElem?_eq_some_iff.1 Uk.out.2).1]
         exact Uk.out.2
        clear YS hin
        go_wp2_with fail
        refine oG.out.mono ?_
        rintro ed w9 ⟨rfl,rfl⟩
        obtain⟨i1,hj,hj0,hj1,hj2⟩:=info_parts lM
        have hsl:=HAq.out
        have hsz:=Yb.out.size
        go_wp2_with (at_builtin;refine ay rfl _ _ 26 26 rfl 9 i1 _ 1 16 Tryz.underlying26 hj hj0 hj1 hj2 rfl w.heap.size _ _ _ rfl _ rfl 1 (bf [x]) ?Om (hsl.alloc _) ?Oo ?Oq ?Ot ?_)
        try (case Om=>simp;omega)
        case Oo=>exact Src.kP Tryz.underlying26 (Sl.dM wr 0 (Nat.zero_le _) 9 1 1 [.string ⟨x.toArray⟩] rfl (by simp[maxLen])) (by intro u hu;simp only[bf,sv,List.map,List.mem_cons,List.not_mem_nil,or_false] at hu;subst hu;rfl)
        case Oq=>unfold maxLen;omega
        case Ot=>omega
        intro ao9 cc9 w8 hs8 hk8 uG hb8
        have KR:Hid (Sl w8 w.heap.size 9 1 (.slice ao9 (ql+1) cc9) (roots++(ext'++[x])).length (bf (roots++(ext'++[x])))):=by
         show Sl _ _ _ _ _ _ _
         rw[←List.append_assoc,List.length_append,←RN.out,show bf ((roots++ext')++[x])=bf (roots++ext')++bf [x] by simp[bf]]
         exact hs8
        have Ce:Hid (Keeps Non w w8):=(Yb.out.alloc _).trans uG fun j hj=>.inr (hsl.own j hj).1
        clear hs8 hk8 uG hb8 hsl hsz hj0 hj1 hj2
        go_wp2_with fail
        go_roundg (e'.refs.length-(j+1))
        case measure=>omega
        case rel=>exact⟨j+1,ext'++[x],rfl,by omega,by go_num,Ce,⟨Qv.out,HP2.out⟩,KR⟩
      ·have hj2:j=e'.refs.length:=by omega
       have Qv:=Lib.hid (Uk.out.1.next vg.out GI.out Uk.out.2 hj2)
       have hkl:k<(roots++ext').length:=(List.getElem?_eq_some_iff.1 Uk.out.2).1
       have hkb:k<roots.length+L.length:=by
        have h1:=Uk.out.1.len
        rw[List.length_append] at hkl
        omega
       have X3:Hid (Keeps Non w wr):=Yb
       have d9:¬j<e'.refs.length:=hjl
       have HAZ:Hid (Sl wr w.heap.size 9 1 (.slice aq ql cq) (roots++ext').length (bf (roots++ext'))):=by rw[←RN.out];exact HAq
       have HJ2:=Lib.hid hj2
       clear hj2 YR
       go_wp2_with fail
       go_roundg (roots.length+L.length+1-(k+1))
       case measure=>omega
       case rel=>exact⟨k+1,ext',by omega,hkl,by go_num,X3,Qv,HAZ⟩
    ·have adr:k=(roots++ext).length:=by omega
     have pW:Hid (∀K,rO L roots K→jO L (roots++ext)=jO L K):=fun K hK=>HQA.out.same adr hK vg.out
     have hA2:Sl wr w.heap.size 9 1 (.slice aa al ac) al (bf (roots++ext)):=HA.out
     clear hall adq HQA adr HA
     generalize roots++ext=A at *
     have HAL:=Lib.hid hal
     have HA:=Lib.hid hA2
     clear hal hA2 hk
     go_wp2_with fail
     go_loopg [12,13] (2*L.length+3) (fun gk ov uv wr=>∃(out:List (List UInt8)) (i ol:Nat) (u:Bool),gk=2*(L.length+1-out.length)+(if u=true then 1 else 0)∧uv=.bool u∧Hid (ol=out.length)∧Hid (zo L A out i∧(u=true→i=0)∧(u=false→i=L.length))∧Hid (Keeps Non w wr)∧Hid (Sl wr w.heap.size 9 1 (.slice aa al ac) al (bf A))∧Hid (Sl wr w.heap.size 9 1 ov ol (bf out))∧Hid (∀b,ov.ownBlock=some b→(Value.slice aa al ac).ownBlock≠some b))
     case atStart=>
      refine⟨[],0,0,true,by simp;omega,rfl,rfl,⟨zo.start _ _,fun _=>rfl,fun h=>by cases h⟩,HK,HA,Sl.nil _ _ _ _,?_⟩
      intro b hb
      cases hb
     case round=>
      clear HK HA
      obtain⟨out,i,ol,u,rfl,rfl,RP,HQO,HK,HA,HO,HDJ⟩:=hrel
      obtain⟨oa,oc,rfl,-,-⟩:=HO.out.shape
      cases u with
      |false=>
       have ZK:=HQO.out.1.done (HQO.out.2.2 rfl)
       have CU:=Lib.hid ZK
       clear ZK
       go_wp2_with fail
       refine bodyPost_ret (v:=.tuple #[.slice oa ol oc,.int .i64 0]) (by simp[results,Tryz.results67,go_sem]) rfl ?_
       refine .inr ⟨KD.out,fun K hK=>⟨_,rfl,?_,HK.out⟩⟩
       have h1:=HO.out
       rw[RP.out,CU.out,pW.out K hK] at h1
       have h2:(Value.slice oa ol oc)=.slice oa (jO L K).length oc:=by rw[RP.out,CU.out,pW.out K hK]
       rw[h2]
       exact h1
      |true=>
       have Ui:Hid (zo L A out 0):=by
        have h1:=HQO.out.1
        rw[HQO.out.2.1 rfl] at h1
        exact h1
       have cr:=(OA.out.keeps HK.out fun h=>h).cell 0
       simp only[List.getElem?_toArray,List.getElem?_cons_zero] at cr
       have HLL:Hid (out.length≤L.length):=kN Ui.out.told
       clear HQO
       go_wp2_with fail
       go_loopg [12,13,79] T.length (fun gk ov uv iv wr=>ov=.slice oa ol oc∧uv=.bool false∧∃i:Nat,gk=T.length-i∧i≤T.length∧iv=.int .i64 i∧Hid (zo L A out i)∧Hid (Keeps Non w wr)∧Hid (Sl wr w.heap.size 9 1 (.slice aa al ac) al (bf A))∧Hid (Sl wr w.heap.size 9 1 (.slice oa ol oc) ol (bf out)))
       case atStart=>exact⟨rfl,rfl,0,rfl,Nat.zero_le _,rfl,Ui,HK,HA,HO⟩
       case round=>
        clear Ui HK HA HO cr
        obtain⟨rfl,rfl,i,rfl,hi,rfl,Ui,HK,HA,HO⟩:=hrel
        by_cases hlt:i<T.length
        ·have hQ:=Cc.out.non HK.out
         obtain⟨x,hx⟩:∃x,T[i]? =some x:=⟨_,List.getElem?_eq_getElem hlt⟩
         obtain⟨e,he⟩:∃e,L[i]? =some e:=⟨_,List.getElem?_eq_getElem (by rw[←yM.out];exact hlt)⟩
         have hX:=hQ.ents i e x he hx
         obtain⟨b,off,cp,hsh,-,-,-,hbl,hcc,-⟩:=hQ.rd.pos (by omega)
         cases hsh
         obtain⟨t1,t2,t3⟩:=o9 T i x hx
         have c0:=(hcc (i*3) (by omega)).trans t1
         have c1:=(hcc (i*3+1) (by omega)).trans t2
         have c2:=(hcc (i*3+2) (by omega)).trans t3
         obtain⟨x0,x1,x2⟩:=x
         have hp0:=hX.path
         simp only at hp0 c0 c1 c2
         subst hp0
         obtain⟨xa1,BH,hx1,-,-⟩:=hX.tree.shape
         obtain⟨yO,yP,hx2,aho,aa0⟩:=hX.refs.shape
         simp only at hx1 hx2
         subst hx1 hx2
         unfold maxLen at aa0
         rw[←Nat.add_assoc] at c1 c2
         unfold sv at c0
         have HE:=Lib.hid he
         have KX:Hid (Rd w 1 (.slice yO e.refs.length yP) e.refs.length (bf e.refs)):=(Cc.out.ents i e _ he hx).refs
         have adt:Hid (∀wx,Keeps Non wr wx→Calls Tryz.prog 103 #[.slice aa al ac,.string ⟨e.path.toArray⟩] wx fun ed w'=>ed=.returned (.bool (decide (e.path∈A)))∧wx=w'):=fun wx hk=>by
          have h1:=I5 A (.slice aa al ac) ⟨e.path.toArray⟩ wx (by rw[←HAL.out];exact HA.out.rd.non hk)
          simpa using h1
         have adu:Hid (∀(y:List UInt8) wx,Keeps Non wr wx→Calls Tryz.prog 103 #[.slice oa ol oc,.string ⟨y.toArray⟩] wx fun ed w'=>ed=.returned (.bool (decide (y∈out)))∧wx=w'):=fun y wx hk=>by
          have h1:=I5 out (.slice oa ol oc) ⟨y.toArray⟩ wx (by rw[←RP.out];exact HO.out.rd.non hk)
          simpa using h1
         clear hQ hX hcc t1 t2 t3 hx he
         go_upto_region 25 with(fail)
         have hkz:Keeps Non wr (wr.alloc (.cells #[.string ⟨e.path.toArray⟩,.slice xa1 e.tree.length BH,.slice yO e.refs.length yP] 165)):=(Keeps.refl _ _).alloc _
         have hbz:=aS.new wr #[.string ⟨e.path.toArray⟩,.slice xa1 e.tree.length BH,.slice yO e.refs.length yP] 165
         obtain⟨wz,hwz⟩:∃wz,wz=wr.alloc (.cells #[.string ⟨e.path.toArray⟩,.slice xa1 e.tree.length BH,.slice yO e.refs.length yP] 165):=⟨_,rfl⟩
         obtain⟨z,hz⟩:∃z,z=wr.heap.size:=⟨_,rfl⟩
         rw[←hwz] at hkz hbz
         rw[←hz] at hbz
         rw[←hwz,←hz]
         have X3:Hid (Keeps Non w wz):=HK.out.tn hkz
         have HAZ:=Lib.hid (HA.out.keep fun b c _ _ hbk=>hbk.keeps hkz fun h=>h)
         have HOZ:=Lib.hid (HO.out.keep fun b c _ _ hbk=>hbk.keeps hkz fun h=>h)
         have HBZ:=Lib.hid hbz
         have HIA:=Lib.hid (adt.out wz hkz)
         have HIO:=Lib.hid (fun y=>adu.out y wz hkz)
         have z0:=hbz.cell 0
         have z2:=hbz.cell 2
         simp only[List.getElem?_toArray,List.getElem?_cons_zero,List.getElem?_cons_succ] at z0 z2
         clear hwz hz hkz hbz adt adu HK HA HO c0 c1 c2
         by_cases RU:e.path∈A
         ·have HI1:Hid (Calls Tryz.prog 103 #[.slice aa al ac,.string ⟨e.path.toArray⟩] wz fun ed w'=>ed=.returned (.bool true)∧wz=w'):=HIA.out.mono (by rintro ed w' ⟨rfl,rfl⟩;exact⟨aF (decide_eq_true RU),rfl⟩)
          have HMA:=Lib.hid RU
          clear RU HIA
          by_cases RV:e.path∈out
          ·have HI2:Hid (Calls Tryz.prog 103 #[.slice oa ol oc,.string ⟨e.path.toArray⟩] wz fun ed w'=>ed=.returned (.bool true)∧wz=w'):=(HIO.out e.path).mono (by rintro ed w' ⟨rfl,rfl⟩;exact⟨aF (decide_eq_true RV),rfl⟩)
           have HNR:Hid (iK L A out e=false):=by
            cases hrd:iK L A out e with
            |false=>rfl
            |true=>exact absurd RV (sZ.1 hrd).2.1
           clear RV
           go_wp2_with fail
           refine HI1.out.mono ?_
           rintro ed w9 ⟨rfl,rfl⟩
           go_wp2_with fail
           refine HI2.out.mono ?_
           rintro ed w9 ⟨rfl,rfl⟩
           go_wp2_with fail
           go_roundg (T.length-(i+1))
           case measure=>omega
           case rel=>exact⟨rfl,rfl,i+1,rfl,by omega,by go_num,Ui.out.pass HE.out HNR.out,X3,HAZ,HOZ⟩
          ·have HI2:Hid (Calls Tryz.prog 103 #[.slice oa ol oc,.string ⟨e.path.toArray⟩] wz fun ed w'=>ed=.returned (.bool false)∧wz=w'):=(HIO.out e.path).mono (by rintro ed w' ⟨rfl,rfl⟩;exact⟨aF (decide_eq_false RV),rfl⟩)
           have HMO:Hid (e.path∉out):=RV
           clear RV
           go_wp2_with fail
           refine HI1.out.mono ?_
           rintro ed w9 ⟨rfl,rfl⟩
           go_wp2_with fail
           refine HI2.out.mono ?_
           rintro ed w9 ⟨rfl,rfl⟩
           go_wp2_with fail
           go_loopg [16,97] e.refs.length (fun gk uv iv wq=>∃(j:Nat) (o:Bool),gk=e.refs.length-j∧j≤e.refs.length∧uv=.bool o∧iv=.int .i64 j∧wz=wq∧Hid (o=true↔∀y∈e.refs.take j,y=e.path∨y∈out))
           case atStart=>exact⟨0,true,rfl,Nat.zero_le _,rfl,rfl,rfl,by show _↔_;simp⟩
           case round=>
            obtain⟨j,o,rfl,hj,rfl,rfl,rfl,HOO⟩:=hrel
            by_cases hjl:j<e.refs.length
            ·obtain⟨fb',fo,fc,hsh,-,-,-,hfb,hfc,-⟩:=(KX.out.non X3.out).pos (by omega)
             cases hsh
             have d0:=(hfc j (by omega)).trans (dJ e.refs j hjl)
             have HX:Hid (e.refs[j]? =some e.refs[j]):=List.getElem?_eq_getElem hjl
             clear hfc
             generalize e.refs[j]=y at *
             unfold sv at d0
             have iC:Hid (∀o2:Bool,(o2=true↔o=true∧(y=e.path∨y∈out))→(o2=true↔∀q∈e.refs.take (j+1),q=e.path∨q∈out)):=fun o2 h2=>by
              rw[h2,HOO.out,List.take_add_one,HX.out]
              constructor
              ·rintro ⟨h3,h4⟩ q hq
               rcases List.mem_append.1 hq with hq|hq
               ·exact h3 q hq
               ·simp only[Option.toList_some,List.mem_singleton] at hq
                rw[hq];exact h4
              ·intro h3
               exact⟨fun q hq=>h3 q (List.mem_append.2 (.inl hq)),h3 y (by simp)⟩
             cases o with
             |false=>
              have HS2:Hid (false=true↔∀q∈e.refs.take (j+1),q=e.path∨q∈out):=iC.out false (by simp)
              go_wp2_with fail
              go_roundg (e.refs.length-(j+1))
              case measure=>omega
              case rel=>exact⟨j+1,false,rfl,by omega,rfl,by go_num,rfl,HS2⟩
             |true=>
              by_cases hye:y=e.path
              ·have hb0:(y==e.path)=true:=by rw[hye];exact beq_self_eq_true _
               have HS2:Hid (true=true↔∀q∈e.refs.take (j+1),q=e.path∨q∈out):=iC.out true (by simp[hye])
               clear hye
               go_wp2_with fail
               go_roundg (e.refs.length-(j+1))
               case measure=>omega
               case rel=>exact⟨j+1,true,rfl,by omega,rfl,by go_num,rfl,by show true=true↔_;exact⟨fun _=>HS2.out.1 (by trivial),fun _=>rfl⟩⟩
              ·have hb0:(y==e.path)=false:=by rw[beq_eq_false_iff_ne];exact hye
               by_cases hyo:y∈out
               ·have HI3:Hid (Calls Tryz.prog 103 #[.slice oa ol oc,.string ⟨y.toArray⟩] wz fun ed w'=>ed=.returned (.bool true)∧wz=w'):=(HIO.out y).mono (by rintro ed w' ⟨rfl,rfl⟩;exact⟨aF (decide_eq_true hyo),rfl⟩)
                have HS2:Hid (true=true↔∀q∈e.refs.take (j+1),q=e.path∨q∈out):=iC.out true (by simp[hyo])
                clear hye hyo
                go_wp2_with fail
                refine HI3.out.mono ?_
                rintro ed w9 ⟨rfl,rfl⟩
                go_wp2_with fail
                go_roundg (e.refs.length-(j+1))
                case measure=>omega
                case rel=>exact⟨j+1,true,rfl,by omega,rfl,by go_num,rfl,by show true=true↔_;exact⟨fun _=>HS2.out.1 (by trivial),fun _=>rfl⟩⟩
               ·have HI3:Hid (Calls Tryz.prog 103 #[.slice oa ol oc,.string ⟨y.toArray⟩] wz fun ed w'=>ed=.returned (.bool false)∧wz=w'):=(HIO.out y).mono (by rintro ed w' ⟨rfl,rfl⟩;exact⟨aF (decide_eq_false hyo),rfl⟩)
                have HS2:Hid (false=true↔∀q∈e.refs.take (j+1),q=e.path∨q∈out):=iC.out false (by simp[hye,hyo])
                clear hye hyo
                go_wp2_with fail
                refine HI3.out.mono ?_
                rintro ed w9 ⟨rfl,rfl⟩
                go_wp2_with fail
                go_roundg (e.refs.length-(j+1))
                case measure=>omega
                case rel=>exact⟨j+1,false,rfl,by omega,rfl,by go_num,rfl,HS2⟩
            ·have Jl:Hid (o=iK L A out e):=by
              have h1:=HOO.out
              rw[List.take_of_length_le (by omega)] at h1
              show _=_
              rw[Bool.eq_iff_iff,sZ,h1]
              exact⟨fun h=>⟨HMA.out,HMO.out,h⟩,fun h=>h.2.2⟩
             clear HOO
             cases o with
             |false=>
              have HNR:Hid (iK L A out e=false):=Jl.out.symm
              clear Jl
              go_wp2_with fail
              go_roundg (T.length-(i+1))
              case measure=>omega
              case rel=>exact⟨rfl,rfl,i+1,rfl,by omega,by go_num,Ui.out.pass HE.out HNR.out,X3,HAZ,HOZ⟩
             |true=>
              have HYR:Hid (iK L A out e=true):=Jl.out.symm
              clear Jl
              obtain⟨i1,hj',hj0,hj1,hj2⟩:=info_parts lM
              have hsl:=HOZ.out
              have hsz:=X3.out.size
              have hol:ol≤11:=by have h1:=HLL.out;have h2:=RP.out;have h3:=vg.out.ten;omega
              go_wp2_with (at_builtin;refine ay rfl _ _ 26 26 rfl 9 i1 _ 1 16 Tryz.underlying26 hj' hj0 hj1 hj2 rfl w.heap.size _ _ _ rfl _ rfl 1 (bf [e.path]) ?d31 (hsl.alloc _) ?d32 ?d33 ?d34 ?_)
              try (case d31=>simp;omega)
              case d32=>exact Src.kP Tryz.underlying26 (Sl.dM wz 0 (Nat.zero_le _) 9 1 1 [.string ⟨e.path.toArray⟩] rfl (by simp[maxLen])) (by intro u hu;simp only[bf,sv,List.map,List.mem_cons,List.not_mem_nil,or_false] at hu;subst hu;rfl)
              case d33=>unfold maxLen;omega
              case d34=>omega
              intro ao9 cc9 w8 hs8 hk8 uG hb8
              have KR:Hid (Sl w8 w.heap.size 9 1 (.slice ao9 (ol+1) cc9) (ol+1) (bf (out++[e.path]))):=by
               show Sl _ _ _ _ _ _ _
               rw[show bf (out++[e.path])=bf out++bf [e.path] by simp[bf]]
               exact hs8
              have Ce:Hid (Keeps Non w w8):=(X3.out.alloc _).trans uG fun j hj=>.inr (hsl.own j hj).1
              have Ya:Hid (Sl w8 w.heap.size 9 1 (.slice aa al ac) al (bf A)):=(HAZ.out.alloc _).keep fun b c hb _ hbk=>hbk.keeps uG fun hj=>HDJ.out b hj hb
              have aht:Hid (∀b,(Value.slice ao9 (ol+1) cc9).ownBlock=some b→(Value.slice aa al ac).ownBlock≠some b):=fun b hb hv=>by
               rcases hb8 with h1|h1
               ·rw[h1] at hb
                exact HDJ.out b hb hv
               ·rw[h1] at hb
                cases hb
                have:=(HAZ.out.own _ hv).2
                omega
              have ahu:Hid (ol+1=(out++[e.path]).length):=by show _=_;rw[List.length_append,←RP.out];rfl
              have adw:2*(L.length+1-(out++[e.path]).length)+1<2*(L.length+1-out.length)+1:=by
               have h1:=HLL.out
               rw[List.length_append,List.length_singleton]
               omega
              clear hs8 hk8 uG hb8 hsl hsz hj' hj0 hj1 hj2
              go_wp2_with fail
              go_roundg (2*(L.length+1-(out++[e.path]).length)+1)
              case measure=>exact adw
              case rel=>exact⟨out++[e.path],0,ol+1,true,by simp,rfl,ahu,⟨Ui.out.tell HE.out HYR.out,fun _=>rfl,fun h=>by cases h⟩,Ce,Ya,KR,aht⟩
         ·have HI1:Hid (Calls Tryz.prog 103 #[.slice aa al ac,.string ⟨e.path.toArray⟩] wz fun ed w'=>ed=.returned (.bool false)∧wz=w'):=HIA.out.mono (by rintro ed w' ⟨rfl,rfl⟩;exact⟨aF (decide_eq_false RU),rfl⟩)
          have HNR:Hid (iK L A out e=false):=by
           cases hrd:iK L A out e with
           |false=>rfl
           |true=>exact absurd (sZ.1 hrd).1 RU
          clear RU HIA
          go_wp2_with fail
          refine HI1.out.mono ?_
          rintro ed w9 ⟨rfl,rfl⟩
          go_wp2_with fail
          go_roundg (T.length-(i+1))
          case measure=>omega
          case rel=>exact⟨rfl,rfl,i+1,rfl,by omega,by go_num,Ui.out.pass HE.out HNR.out,X3,HAZ,HOZ⟩
        ·have hi2:i=L.length:=by rw[←yM.out];omega
         have HI2:=Lib.hid hi2
         clear hi2
         go_wp2_with fail
         go_roundg (2*(L.length+1-out.length))
         case measure=>omega
         case rel=>exact⟨out,i,ol,false,by simp,rfl,RP,⟨Ui.out,(fun h=>by cases h),fun _=>HI2.out⟩,HK,HA,HO,HDJ⟩
end Go.Proofs.YtdkogijdfgfpeaaGreatDoor
