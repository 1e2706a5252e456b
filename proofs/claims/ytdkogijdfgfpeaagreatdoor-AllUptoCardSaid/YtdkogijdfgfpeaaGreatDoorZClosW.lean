/- (*Store).Closure. -/
import Derived.Test.YtdkogijdfgfpeaaGreatDoorZClosP
import Derived.Test.YtdkogijdfgfpeaaGreatDoorZReachW
import Derived.WalkMore
import Derived.Laws.EntriesVeiled
set_option linter.unusedVariables false
namespace Go.Proofs.YtdkogijdfgfpeaaGreatDoor
open Go Go.RowKit
set_option maxHeartbeats 3200000
set_option maxRecDepth 100000
structure nR(L:aH)(roots:List (List UInt8))(N:bY)(k:Nat):Prop where
 ents:∀j,tZ N j→∃e∈L,e.path=j∧getM N j=some (zY (Vk e))∧∀r∈e.refs,tZ N r
 done:∀r∈roots.take k,tZ N r
 least:∀X,KO L X→(∀r∈roots.take k,X r)→∀j,tZ N j→X j
theorem nR.start(L:aH)(roots:List (List UInt8)):nR L roots [] 0:=by
 refine⟨fun j hj=>?_,by simp,fun X _ _ j hj=>?_⟩ <;> obtain⟨v,h⟩:=hj <;> cases h
theorem nR.step{L:aH}{roots:List (List UInt8)}{N N':bY}{k:Nat}{r:List UInt8}(h:nR L roots N k)(hr:roots[k]? =some r)(hg:Grew L r N N'):nR L roots N' (k+1):=by
 have ht:roots.take (k+1)=roots.take k++[r]:=by rw[List.take_add_one,hr];rfl
 have hin:∀j,tZ N j→tZ N' j:=fun j ⟨v,hv⟩=>⟨v,hg.old j v hv⟩
 refine⟨fun j hj=>?_,fun q hq=>?_,fun X hs hX j hj=>?_⟩
 ·by_cases hj0:tZ N j
  ·obtain⟨e,he,oz,hv,hre⟩:=h.ents j hj0
   exact⟨e,he,oz,hg.old j _ hv,fun r hr=>hin r (hre r hr)⟩
  ·exact hg.new j hj0 hj
 ·rw[ht] at hq
  rcases List.mem_append.1 hq with hq|hq
  ·exact hin q (h.done q hq)
  ·rw[List.mem_singleton.1 hq]
   exact hg.it
 ·rw[ht] at hX
  rcases hg.least X hs (hX r (by simp)) j hj with h1|h1
  ·exact h.least X hs (fun q hq=>hX q (List.mem_append.2 (.inl hq))) j h1
  ·exact h1
structure rO(L:aH)(roots K:List (List UInt8)):Prop where
 keys:Jj L K
 has:∀r∈roots,r∈K
 least:∀X,KO L X→(∀r∈roots,X r)→∀k∈K,X k
 once:K.Nodup
theorem nR.reach{L:aH}{roots:List (List UInt8)}{N:bY}{k:Nat}(h:nR L roots N k)(hk:k=roots.length)(hn:(N.map Prod.fst).Nodup):rO L roots (N.map Prod.fst):=by
 subst hk
 have h1:=h.done
 have h2:=h.least
 rw[List.take_length] at h1 h2
 refine⟨fun j hj=>?_,fun r hr=>kF.1 (h1 r hr),fun X hs hX j hj=>h2 X hs hX j (kF.2 hj),hn⟩
 obtain⟨e,he,oz,-,hr⟩:=h.ents j (kF.2 hj)
 exact⟨e,he,oz,fun r hr2=>kF.1 (hr r hr2)⟩
theorem nR.map{L:aH}{roots:List (List UInt8)}{N:bY}{k:Nat}(h:nR L roots N k)(hok:bK L):BF L N (N.map Prod.fst) (mP []):=by
 refine⟨rfl,fun e he hk=>?_⟩
 obtain⟨e',he',oz,hv,-⟩:=h.ents _ (kF.2 hk)
 have:=hok.uniq he' he oz
 subst this
 rw[hv,Vm]
theorem iV.Bv{S:Nat→Prop}{w w':World}{b:Nat}{v:Value}{l:List (List UInt8)}(h:iV w b v l)(k:Keeps S w w')(hs:∀j c T fr,w.heap[j]? =some (.cells c T fr)→¬S j):iV w' b v l:=
 ⟨h.blk.keeps k (hs b _ _ _ h.blk),h.sl.keep fun b' c _ _ hb=>hb.keeps k (hs b' _ _ _ hb),h.fit⟩
theorem iV.cells{w:World}{b:Nat}{v:Value}{l:List (List UInt8)}(h:iV w b v l){k:Nat}(hk:CS b v k):∃c T fr,w.heap[k]? =some (.cells c T fr):=by
 rcases hk with rfl|hk
 ·exact⟨_,_,_,h.blk⟩
 ·obtain⟨h1,⟨e,h3⟩|⟨b',off,cap,c,e,hB,hb,h2⟩⟩:=h.sl
  ·rw[e] at hk;cases hk
  ·rw[e] at hk
   cases hk
   exact⟨_,_,_,hb⟩
theorem jh.eH{w:World}{r b:Nat}{m:bY}{todo:List (List UInt8)}(h:jh w r b m todo){k:Nat}{c:Array Value}{T:TypeId}{fr:Nat×Nat}(hk:w.heap[k]? =some (.cells c T fr)):k≠r:=by
 obtain⟨es,clock,since,seen,c0,hb,hm,hr,-⟩:=h
 intro e
 rw[e,hr] at hk
 cases hk
theorem jh.heap{w w':World}{r b hb:Nat}{m:bY}{todo l:List (List UInt8)}{v:Value}(h:jh w r b m todo)(hh:iV w hb v l)(k:Keeps (CS hb v) w w'):jh w' r b m todo:=
 h.keeps k (fun e=>by obtain⟨c,T,fr,hc⟩:=hh.cells e;exact h.map.eH hc rfl) (fun e=>by obtain⟨c,T,fr,hc⟩:=hh.cells e;exact h.eH hc rfl)
theorem Sl.cells{w:World}{B:Nat}{E:TypeId}{size:Nat}{v:Value}{n:Nat}{xs:List Value}(h:Sl w B E size v n xs){b:Nat}(hb:v.ownBlock=some b):∃c,aS w b c E:=by
 obtain⟨h1,⟨rfl,h3⟩|⟨b',off,cap,c,rfl,hB,hbk,h2⟩⟩:=h
 ·cases hb
 ·cases hb
  exact⟨c,hbk⟩
theorem Sl.ac1{w:World}{B b:Nat}{c0:Array Value}{v:Value}{n:Nat}{xs:List Value}(h:Sl w B 9 1 v n xs)(hb0:aS w b c0 TR):v.ownBlock≠some b:=by
 intro e
 obtain⟨c,hc⟩:=h.cells e
 have:=(hb0.inj hc).2
 revert this
 decide
theorem iV.ac2{S:Nat→Prop}{w w':World}{b:Nat}{v:Value}{l:List (List UInt8)}(h:iV w b v l)(k:Keeps S w w')(h1:¬S b)(h2:∀j,v.ownBlock=some j→¬S j):iV w' b v l:=
 ⟨h.blk.keeps k h1,h.sl.keep fun b' c hb' _ hb=>hb.keeps k (h2 b' hb'),h.fit⟩
structure Apart(w wA:World)(nb hb:Nat)(M:bY)(h out:List (List UInt8))(v ov:Value):Prop where
 map:MapAt w nb M
 heap:iV w hb v h
 good:lT h h.length
 told:Sl w wA.heap.size 9 1 ov out.length (bf out)
 apart:∀b,ov.ownBlock=some b→v.ownBlock≠some b
 own:∀b,v.ownBlock=some b→wA.heap.size≤b
 keeps:Keeps (One nb) wA w
 hbk:wA.heap.size≤hb
theorem Apart.tell{w w1 wA:World}{nb hb:Nat}{M:bY}{h out:List (List UInt8)}{v ov nv:Value}{x:List UInt8}{o:Obj}(a:Apart w wA nb hb M h out v ov)(hs:Sl w1 wA.heap.size 9 1 nv (out.length+1) (bf out++[sv x]))(k:Keeps (jC ov) (w.alloc o) w1)
 (hb1:nv.ownBlock=ov.ownBlock∨nv.ownBlock=some (w.heap.size+1)):Apart w1 wA nb hb M h (out++[x]) v nv:=by
 have hk:Keeps (jC ov) w w1:=((Keeps.refl (jC ov) w).alloc o).trans k fun j hj=>.inl hj
 refine⟨a.map.keeps hk fun e=>?_,a.heap.ac2 hk (fun e=>a.told.ac1 a.heap.blk e) fun j hj e=>a.apart j e hj,a.good,by simpa [bf] using hs,fun b hb2 hv=>?_,a.own,a.keeps.trans hk fun j hj=>.inr (a.told.own j hj).1,a.hbk⟩
 ·obtain⟨c,hc⟩:=a.told.cells e
  exact a.map.eH hc rfl
 ·rcases hb1 with h1|h1
  ·rw[h1] at hb2
   exact a.apart b hb2 hv
  ·rw[h1] at hb2
   cases hb2
   have:=(a.heap.sl.own _ hv).2
   omega
theorem Apart.step{w w1 wA:World}{nb hb ir:Nat}{M:bY}{h out todo:List (List UInt8)}{v ov:Value}(a:Apart w wA nb hb M h out v ov)(hit:jh w ir nb M todo)(k:Keeps (One ir) w w1)(hi:wA.heap.size≤ir):Apart w1 wA nb hb M h out v ov:=
 ⟨a.map.keeps k fun e=>hit.ne e.symm,a.heap.Bv k fun j c T fr hc e=>hit.eH hc e,a.good,a.told.keep fun b c hb _ hbk=>hbk.keeps k fun e=>hit.eH hbk e,a.apart,a.own,a.keeps.trans k fun j hj=>.inr (by cases hj;exact hi),a.hbk⟩
theorem Apart.non{w w1 wA:World}{nb hb:Nat}{M:bY}{h out:List (List UInt8)}{v ov:Value}(a:Apart w wA nb hb M h out v ov)(k:Keeps Non w w1):Apart w1 wA nb hb M h out v ov:=
 ⟨a.map.keeps k fun e=>e,a.heap.non k,a.good,a.told.keep fun b c hb _ hbk=>hbk.keeps k fun e=>e,a.apart,a.own,a.keeps.trans k fun j hj=>hj.elim,a.hbk⟩
theorem Apart.put{w w1 wA:World}{nb hb:Nat}{M M1:bY}{h out:List (List UInt8)}{v ov:Value}(a:Apart w wA nb hb M h out v ov)(hm:MapAt w1 nb M1)(k:Keeps (One nb) w w1):Apart w1 wA nb hb M1 h out v ov:=
 ⟨hm,a.heap.Bv k fun j c T fr hc e=>a.map.eH hc e,a.good,a.told.keep fun b c hb _ hbk=>hbk.keeps k fun e=>a.map.eH hbk e,a.apart,a.own,a.keeps.trans k fun j hj=>.inl hj,a.hbk⟩
theorem Apart.turn{w w1 wA:World}{nb hb:Nat}{M:bY}{h h1 out:List (List UInt8)}{v v1 ov:Value}(a:Apart w wA nb hb M h out v ov)(hh:iV w1 hb v1 h1)(hn:lT h1 h1.length)(k:Keeps (CS hb v) w w1)(ho:Qs w v v1):Apart w1 wA nb hb M h1 out v1 ov:=by
 refine⟨a.map.keeps k fun e=>?_,hh,hn,a.told.keep fun b c hb _ hbk=>hbk.keeps k fun e=>?_,fun b hb2 hv=>?_,fun b hb2=>?_,a.keeps.trans k fun j hj=>.inr ?_,a.hbk⟩
 ·obtain⟨c,T,fr,hc⟩:=a.heap.cells e
  exact a.map.eH hc rfl
 ·rcases e with rfl|e
  ·exact a.told.ac1 a.heap.blk hb
  ·exact a.apart b hb e
 ·rcases ho with h2|⟨j,h2,hj⟩
  ·rw[h2] at hv
   exact a.apart b hb2 hv
  ·rw[h2] at hv
   cases hv
   have:=(a.told.own _ hb2).2
   omega
 ·rcases ho with h2|⟨j,h2,hj⟩
  ·rw[h2] at hb2
   exact a.own b hb2
  ·rw[h2] at hb2
   cases hb2
   exact Nat.le_trans a.keeps.size hj
 ·rcases hj with rfl|hj
  ·exact a.hbk
  ·exact a.own j hj
def Eb(w:World)(L:aH)(roots:List (List UInt8))(ed:Ending)(w':World):Prop:=
 ((∃r∈roots,aA L r=none)∧ed=.returned (.tuple #[.slice none 0 0,.int .i64 15])∧Keeps Non w w')∨
 ((∀r∈roots,(aA L r).isSome=true)∧∃K v,rO L roots K∧ed=.returned (.tuple #[v,.int .i64 0])∧Sl w' w.heap.size 9 1 v (jO L K).length (bf (jO L K))∧Keeps Non w w')
theorem BI{F:Nat→Prop}{s:Nat}{L:aH}(w:World)(h:aU w F s L)(roots:List (List UInt8))(vr:Value)(hr:Rd w 1 vr roots.length (bf roots))(hrl:roots.length≤1099511627776)(hrs:∀r∈roots,r.length≤1099511627776):
 Calls Tryz.prog 18 #[pv s,vr] w (Eb w L roots):=by
 have HS:=Lib.hid h
 have HR:=Lib.hid hr
 have HRS:=Lib.hid hrs
 obtain⟨va,vc,rfl,hc1,hc2⟩:=hr.shape
 unfold maxLen at hc2
 have hmm:= @run_makeMap Tryz.prog
 clear h hr hrs
 unfold pv
 go_enter Tryz.func18,Tryz.ntmps18
 go_upto_region 3 with(fail)
 obtain⟨W0,hW0⟩:∃W0,W0=((((w.alloc (.cells #[.pointer (some ⟨s,0,none⟩)] 34)).alloc (.map #[] 0)).alloc (.cells #[.map (some (w.heap.size+1))] 76)).alloc (.cells #[.nilFunc] 77)):=⟨_,rfl⟩
 rw[←hW0]
 have hk0:Keeps Non w W0:=by rw[hW0];exact((((Keeps.refl _ _).alloc _).alloc _).alloc _).alloc _
 have hbs:aS W0 w.heap.size #[pv s] 34:=by rw[hW0];exact(((aS.new w _ _).alloc _).alloc _).alloc _
 have hbm:MapAt W0 (w.heap.size+1) []:=by
  have h1:=MapAt.made (w.alloc (.cells #[.pointer (some ⟨s,0,none⟩)] 34))
  rw[hW0]
  have h2:((w.alloc (.cells #[.pointer (some ⟨s,0,none⟩)] 34))).heap.size=w.heap.size+1:=by simp
  rw[h2] at h1
  exact h1.keeps (((Keeps.refl Non _).alloc _).alloc _) (fun h=>h)
 have hbn:aS W0 (w.heap.size+1+1) #[.map (some (w.heap.size+1))] 76:=by
  have h1:=(aS.new ((w.alloc (.cells #[.pointer (some ⟨s,0,none⟩)] 34)).alloc (.map #[] 0)) #[.map (some (w.heap.size+1))] 76).alloc (.cells #[.nilFunc] 77)
  rw[hW0]
  simpa using h1
 have hbr:aS W0 (w.heap.size+1+1+1) #[.nilFunc] 77:=by
  have h1:=aS.new (((w.alloc (.cells #[.pointer (some ⟨s,0,none⟩)] 34)).alloc (.map #[] 0)).alloc (.cells #[.map (some (w.heap.size+1))] 76)) #[.nilFunc] 77
  rw[hW0]
  simpa using h1
 obtain⟨cS,hcS⟩:∃cS,cS=w.heap.size:=⟨_,rfl⟩
 obtain⟨nb,hnb⟩:∃nb,nb=w.heap.size+1:=⟨_,rfl⟩
 obtain⟨cN,FV⟩:∃cN,cN=w.heap.size+1+1:=⟨_,rfl⟩
 obtain⟨cR,hcR⟩:∃cR,cR=w.heap.size+1+1+1:=⟨_,rfl⟩
 rw[←hcR] at hbr
 rw[←FV,←hnb] at hbn
 rw[←hnb] at hbm
 rw[←hcS] at hbs
 rw[←hcR,←FV,←hnb,←hcS]
 have c0:=hbr.cell 0
 have f0:=hbr.free 0
 simp only[List.getElem?_toArray,List.getElem?_cons_zero] at c0
 have JK:Hid (w.heap.size≤nb∧w.heap.size≤cR∧cS≠cR∧cN≠cR):=⟨by omega,by omega,by omega,by omega⟩
 have vJ:=Lib.hid hk0
 have HBS:=Lib.hid hbs
 have HBM:=Lib.hid hbm
 have Rw:=Lib.hid hbn
 have OA:=Lib.hid hbr
 clear hk0 hbs hbm hbn hbr hW0 hcS hnb FV hcR hmm
 go_upto_region 4 with(fail)
 obtain⟨W1,hW1⟩:∃W1,W1=W0.setCell ⟨cR,0,none⟩ (.func (.func 35) #[] #[.pointer (some ⟨cN,0,none⟩),.pointer (some ⟨cS,0,none⟩),.pointer (some ⟨cR,0,none⟩)]):=⟨_,rfl⟩
 rw[←hW1]
 have iy:Hid (Keeps Non w W1):=by show Keeps Non w W1;rw[hW1];exact vJ.out.setCell _ _ (.inr JK.out.2.1)
 have oI:Hid (aU W1 F s L):=HS.out.non iy.out
 have ZI:Hid (MapAt W1 nb []):=by
  show MapAt W1 nb []
  rw[hW1]
  exact HBM.out.keeps ((Keeps.refl (One cR) W0).setCell ⟨cR,0,none⟩ _ (.inl rfl)) fun e=>HBM.out.eH OA.out e.symm
 have UJ:Hid (Env W1 F s cN cS cR nb):=by
  show Env W1 F s cN cS cR nb
  rw[hW1]
  exact⟨Rw.out.jT _ _ JK.out.2.2.2,HBS.out.jT _ _ JK.out.2.2.1,OA.out.set 0 _,fun h=>by have:=HS.out.lt nb h;have:=JK.out.1;omega⟩
 have HR1:=Lib.hid (HR.out.non iy.out)
 have ac3:Hid (w.heap.size≤nb):=JK.out.1
 have DL:Hid (Tryz.prog.underlying 76=some (.map 9 3)):=Tryz.underlying76
 have yc:Hid (Tryz.prog.underlying 82=some (.map 9 81)):=Tryz.underlying82
 clear hW1 c0 f0 vJ HBS HBM Rw OA JK HR HS
 go_wp2_with fail
 go_loopg [20] roots.length (fun gk iv wr=>∃(k:Nat) (N:bY),gk=roots.length-k∧k≤roots.length∧iv=.int .i64 k∧Hid (MapAt wr nb N)∧Hid (nR L roots N k)∧Hid (∀r∈roots.take k,(aA L r).isSome=true)∧Hid (Keeps (One nb) W1 wr))
 case atStart=>exact⟨0,[],rfl,Nat.zero_le _,rfl,ZI,nR.start L roots,by show ∀r∈_,_;simp,Keeps.refl _ _⟩
 case round=>
  obtain⟨k,N,rfl,hk,rfl,yQ,HRO,HFS,iP⟩:=hrel
  have HS2:Hid (aU wr F s L):=oI.out.keeps iP.out fun b hb e2=>UJ.out.far (by cases e2;exact hb)
  have HE2:Hid (Env wr F s cN cS cR nb):=UJ.out.one ZI.out iP.out
  have aaO:Hid (Keeps Non w wr):=iy.out.trans iP.out fun k hk=>.inr (by cases hk;exact ac3.out)
  by_cases hlt:k<roots.length
  ·have QU:Hid (Rd wr 1 (.slice va roots.length vc) roots.length (bf roots)):=HR1.out.Bv iP.out fun b c T fr _ hc e2=>ZI.out.eH hc e2
   have cs2:=HE2.out.s.cell 0
   have cr2:=HE2.out.r.cell 0
   obtain⟨mb,m,g1,g2,g3,g4,g5,g6⟩:=HS2.out.map
   have ds2:=g2.cell 0
   simp only[List.getElem?_toArray,List.getElem?_cons_zero] at cs2 cr2 ds2
   unfold rf at cr2
   unfold pv at cs2
   have KG:=Lib.hid g3
   obtain⟨b,off,cp,hsh,-,-,-,hbl,hc,-⟩:=QU.out.pos (by omega)
   cases hsh
   have d0:wr.cell? ⟨b,off+k,none⟩=some (sv roots[k]):=(hc k (by omega)).trans (dJ roots k hlt)
   have HX:Hid (roots[k]? =some roots[k]∧roots[k]∈roots∧roots[k].length≤1099511627776):=⟨List.getElem?_eq_getElem hlt,List.getElem_mem _,HRS.out _ (List.getElem_mem _)⟩
   clear hc
   generalize roots[k]=x at *
   unfold sv at d0
   rcases aU.look g3 g5 g6 x with⟨hf,hg⟩|⟨e,q,hf,hel,oz,hg,hE⟩
   ·have iG:Hid ((getM m x).getD (.pointer none)=.pointer none):=by show _=_;rw[hg];rfl
    have wX:=Lib.hid hf
    clear hf hg g1 g2 g3 g4 g5 g6
    go_wp2_with (first|(at_lookup;refine eG _ rfl _ _ _ rfl _ _ yc.out Tryz.underlying9 (.pointer none) (Tryz.zeroValue81 _) mb m rfl KG.out x rfl HX.out.2.2 ?_;rw[iG.out]))
    refine bodyPost_ret (v:=.tuple #[.slice none 0 0,.int .i64 15]) (by simp[results,Tryz.results18,go_sem]) rfl ?_
    exact .inl ⟨⟨x,HX.out.2.1,wX.out⟩,rfl,aaO.out⟩
   ·have iG:Hid ((getM m x).getD (.pointer none)=.pointer (some ⟨q,0,none⟩)):=by show _=_;rw[hg];rfl
    have wX:Hid ((aA L x).isSome=true):=by show _=_;rw[hf];rfl
    have HRE:=Lib.hid (Ry (yg L N) e wr N (Nat.le_refl _) hel HS2.out HE2.out yQ.out)
    subst oz
    clear hf hg g1 g2 g3 g4 g5 g6 hE hel
    go_wp2_with (first|(at_lookup;refine eG _ rfl _ _ _ rfl _ _ yc.out Tryz.underlying9 (.pointer none) (Tryz.zeroValue81 _) mb m rfl KG.out e.path rfl HX.out.2.2 ?_;rw[iG.out]))
    refine HRE.out.mono ?_
    rintro ed w4 ⟨rfl,N4,hm4,hg4,hk4⟩
    have HM4:=Lib.hid hm4
    have HG4:=Lib.hid (HRO.out.step HX.out.1 hg4)
    have wS:Hid (Keeps (One nb) W1 w4):=iP.out.trans hk4 fun k hk=>.inl hk
    clear hm4 hg4 hk4 cr2 cs2 ds2 d0
    go_wp2_with fail
    go_roundg (roots.length-(k+1))
    case measure=>omega
    case rel=>
     refine⟨k+1,N4,rfl,by omega,by go_num,HM4,HG4,?_,wS⟩
     show ∀r∈_,_
     intro r hr
     rw[List.take_add_one,HX.out.1,List.mem_append] at hr
     rcases hr with hr|hr
     ·exact HFS.out r hr
     ·simp only[Option.toList_some,List.mem_singleton] at hr
      rw[hr]
      exact wX.out
  ·have hk2:k=roots.length:=by omega
   subst hk2
   have KD:Hid (∀r∈roots,(aA L r).isSome=true):=by
    have h1:=HFS.out
    rw[List.take_length] at h1
    exact h1
   have D7:=Lib.hid (HRO.out.reach rfl yQ.out.nodup)
   have HMT:=Lib.hid (HRO.out.map HS2.out.ok)
   clear HFS HRO hlt ZI UJ oI HR1 iP iy
   go_upto_region 12 with(fail)
   generalize wr=wA at *
   obtain⟨W5,hW5⟩:∃W5,W5=(wA.alloc (.cells #[] 9)).alloc (.cells #[.slice (some ⟨wA.heap.size,0,none⟩) 0 0] 86):=⟨_,rfl⟩
   obtain⟨hb,hhb⟩:∃hb,hb=wA.heap.size+1:=⟨_,rfl⟩
   obtain⟨sb,hsb⟩:∃sb,sb=wA.heap.size:=⟨_,rfl⟩
   rw[←hW5,←hhb]
   have ng:Hid (Keeps Non wA W5):=by show Keeps Non wA W5;rw[hW5];exact((Keeps.refl _ _).alloc _).alloc _
   have HH5:Hid (iV W5 hb (.slice (some ⟨sb,0,none⟩) 0 0) []):=by
    show iV W5 hb _ []
    rw[hW5,hhb,hsb]
    refine⟨?_,?_,by simp⟩
    ·have h1:=aS.new (wA.alloc (.cells #[] 9)) #[.slice (some ⟨wA.heap.size,0,none⟩) 0 0] TR
     simpa using h1
    ·exact(Sl.dM wA 0 (Nat.zero_le _) 9 1 0 [] rfl (by simp[maxLen])).alloc _
   have HO5:Hid (∀b,(Value.slice (some ⟨sb,0,none⟩) 0 0).ownBlock=some b→wA.heap.size≤b):=fun b hb=>by cases hb;exact Nat.le_of_eq hsb.symm
   have HM5:=Lib.hid (yQ.out.keeps ng.out fun h=>h)
   have HE5:Hid (Env W5 F s cN cS cR nb):=HE2.out.keeps ng.out fun _ _ _ _ _ _ h=>h
   have cn5:=HE5.out.n.cell 0
   simp only[List.getElem?_toArray,List.getElem?_cons_zero] at cn5
   have HHB:Hid (wA.heap.size≤hb):=by show _≤_;omega
   clear hW5 hhb hsb
   go_wp2_with (first|(at_range;refine Ar _ rfl _ _ rfl _ _ DL.out nb N rfl HM5.out ?_;intro w6 aaP hk6 hs6))
   obtain⟨ir,hir⟩:∃ir,ir=W5.heap.size:=⟨_,rfl⟩
   rw[←hir] at aaP
   rw[←hir]
   have ac5:=Lib.hid aaP
   have yU:Hid (Keeps Non wA w6):=ng.out.trans hk6 fun _ h=>h.elim
   have HH6:=Lib.hid (HH5.out.non hk6)
   have HIB:Hid (wA.heap.size≤ir):=by rw[hir];exact ng.out.size
   have HKL:Hid ((N.map Prod.fst).length≤10):=Nat.le_trans (D7.out.keys.len D7.out.once) HS2.out.ok.ten
   clear aaP hk6 hs6 hir HM5 HE5 ng HH5 cn5
   go_frame
   go_loopg [] (N.map Prod.fst).length (fun gk wx=>∃(todo h:List (List UInt8)) (v:Value),gk=todo.length∧Hid (jh wx ir nb N todo)∧Hid (iV wx hb v h)∧Hid (lT h h.length)∧Hid (mF L (N.map Prod.fst) N todo h)∧Hid (∀b,v.ownBlock=some b→wA.heap.size≤b)∧Hid (Keeps Non wA wx))
   case atStart=>exact⟨_,[],_,rfl,ac5,HH6,fun k hk=>absurd hk (by simp),mF.start HMT.out,HO5,yU⟩
   case round=>
    obtain⟨todo,h,v,rfl,HIT,HH,HHN,YL,HOW,pO⟩:=hrel
    by_cases hemp:todo=[]
    ·subst hemp
     have ac6:=Lib.hid YL.out.done
     have HM9:=Lib.hid HIT.out.map
     clear YL ac5 HH6 HO5 HMT
     go_wp2_with (first|(at_next;refine sU _ rfl _ rfl ir nb N [] rfl HIT.out (fun _=>?_) (fun k v w' hk=>absurd hk (by simp))))
     have HAP:Hid (Apart wr wA nb hb N h [] v (.slice none 0 0)):=by
      refine⟨HM9.out,HH.out,HHN.out,Sl.nil _ _ _ _,?_,HOW.out,pO.out.mono fun _ _ h=>h.elim,HHB.out⟩
      intro b hb
      cases hb
     clear HIT pO yU HIB HH HHN HOW HM9
     go_loopg [13] (L.length+1) (fun gk ov wx=>∃(M:bY) (out h:List (List UInt8)) (v:Value),gk=L.length+1-out.length∧Hid (uF L (N.map Prod.fst) M out h)∧Hid (Apart wx wA nb hb M h out v ov))
     case atStart=>exact⟨N,[],h,v,rfl,ac6,HAP⟩
     case round=>
      clear ac6 HAP
      obtain⟨M,out,h,v,rfl,HT,HA⟩:=hrel
      obtain⟨oa,oc,rfl,ho1,ho2⟩:=HA.out.told.shape
      have ch:=HA.out.heap.cell
      have Uh:=Lib.hid (D8 h v wr HA.out.heap.sl.rd)
      rcases List.eq_nil_or_concat h with rfl|⟨h0,y0,hh0⟩
      ·have ac8:=Lib.hid HT.out.done
       go_wp2_with fail
       refine Uh.out.mono ?_
       rintro ed w7 ⟨rfl,rfl⟩
       go_wp2_with fail
       refine bodyPost_ret (v:=.tuple #[.slice oa out.length oc,.int .i64 0]) (by simp[results,Tryz.results18,go_sem]) rfl ?_
       have hsv:=HA.out.told.mono aaO.out.size
       rw[ac8.out] at hsv
       have he:Value.slice oa out.length oc=Value.slice oa (jO L (N.map Prod.fst)).length oc:=by rw[←ac8.out]
       rw[he]
       exact .inr ⟨KD.out,_,_,D7.out,rfl,hsv,aaO.out.trans HA.out.keeps fun k hk=>.inr (by cases hk;exact ac3.out)⟩
      ·have hpos:0<h.length:=by rw[hh0];simp
       have hd:decide ((0:Int)<(h.length:Int))=true:=by simp;omega
       have Aa:=Lib.hid (La wr HA.out.heap hpos HA.out.good)
       unfold hv at Aa
       clear hh0
       go_wp2_with fail
       refine Uh.out.mono ?_
       rintro ed w7 ⟨rfl,rfl⟩
       go_wp2_with fail
       refine Aa.out.mono ?_
       rintro ed w7 ⟨⟨x,v7,h7,rfl,hh7,Qd,hn7,hl7,hv7⟩,xg⟩
       have YM:=Lib.hid (HT.out.pop HS2.out.ok D7.out.keys Qd hl7)
       have HA7:=Lib.hid (HA.out.turn hh7 hn7 xg (.inl hv7))
       have HXL:Hid (x.length≤1099511627776):=by
        obtain⟨e,he,oz,-⟩:=D7.out.keys x (YM.out.told.all x (by simp))
        rw[←oz]
        exact HS2.out.len he
       have hol:out.length≤11:=by have:=kN HT.out.told;have:=HS2.out.ok.ten;omega
       have hta:∀w,Sem.run Tryz.prog (Instr.typeAssert (.iface 9 (.string ⟨x.toArray⟩)) 20 9 false) w=.ok (.string ⟨x.toArray⟩) w:=fun w=>by kernel_rfl
       obtain⟨i0,hi,hi0,hi1,hi2⟩:=info_parts lM
       have ac9:=HA7.out.told
       have aaR:=HA7.out.keeps.size
       unfold sv
       clear hh7 Qd hn7 hl7 hv7 xg Aa HA HT ch Uh hd hpos
       go_upto_region 20 with(fail)
       clear hta
       go_upto_region 21 with(at_builtin;refine ay rfl _ _ 26 26 rfl 9 i0 _ 1 16 Tryz.underlying26 hi hi0 hi1 hi2 rfl wA.heap.size _ _ _ rfl _ rfl 1 (bf [x]) ?c1 (ac9.alloc _) ?c2 ?c3 ?c4 ?_)
       case c1=>simp;omega
       case c2=>exact Src.kP Tryz.underlying26 (Sl.dM w7 0 (Nat.zero_le _) 9 1 1 [.string ⟨x.toArray⟩] rfl (by simp[maxLen])) (by intro u hu;simp only[bf,sv,List.map,List.mem_cons,List.not_mem_nil,or_false] at hu;subst hu;rfl)
       case c3=>unfold maxLen;omega
       case c4=>omega
       intro ao cc w8 hs8 hk8 uG hb8
       have Ya:=Lib.hid (HA7.out.tell hs8 uG hb8)
       have HE8:=Lib.hid (HE2.out.one yQ.out Ya.out.keeps)
       have HM8:=Lib.hid Ya.out.map
       have cn8:=HE8.out.n.cell 0
       simp only[List.getElem?_toArray,List.getElem?_cons_zero] at cn8
       clear hs8 hk8 uG hb8 HA7 ac9 aaR hi hi0 hi1 hi2
       go_upto_region 21 with(fail)
       go_wp2_with (first|(at_range;refine Ar _ rfl _ _ rfl _ _ DL.out nb M rfl HM8.out ?_;intro w9 Ci hk9 hs9))
       go_frame
       obtain⟨ir2,YN⟩:∃ir2,ir2=w8.heap.size:=⟨_,rfl⟩
       rw[←YN] at Ci
       rw[←YN]
       have ag9:Hid (wA.heap.size≤ir2):=by rw[YN];exact Ya.out.keeps.size
       rw[YM.out.map.keys] at Ci
       have Ec:=Lib.hid Ci
       have YO:=Lib.hid (Ya.out.non hk9)
       clear Ci hk9 hs9 YN Ya HE8 HM8 cn8
       go_loopg [] (N.map Prod.fst).length (fun gk wx=>∃(M:bY) (todo h:List (List UInt8)) (v:Value),gk=todo.length∧Hid (iM L (N.map Prod.fst) M out x todo h)∧Hid (jh wx ir2 nb M todo)∧Hid (∀y∈todo,y∈N.map Prod.fst)∧Hid (Apart wx wA nb hb M h (out++[x]) v (.slice ao (out.length+1) cc)))
       case atStart=>exact⟨M,_,h7,v7,rfl,YM,Ec,fun y hy=>hy,YO⟩
       case round=>
        clear YM Ec YO
        obtain⟨M,todo,h,v,rfl,HR,HIT,HTK,HA⟩:=hrel
        by_cases hemp:todo=[]
        ·subst hemp
         have HT:=Lib.hid HR.out.done
         have hms:L.length+1-(out++[x]).length<L.length+1-out.length:=by
          have:=kN HR.out.told
          rw[List.length_append,List.length_singleton] at this ⊢
          omega
         clear HR HTK
         go_wp2_with (first|(at_next;refine sU _ rfl _ rfl ir2 nb M [] rfl HIT.out (fun _=>?_) (fun k v w' hk=>absurd hk (by simp))))
         go_roundg (L.length+1-(out++[x]).length)
         case measure=>exact hms
         case rel=>exact⟨M,out++[x],h,v,rfl,HT,HA⟩
        ·go_upto_region 23 with(first|(at_next;refine sU _ rfl _ rfl ir2 nb M todo rfl HIT.out (fun h=>absurd h hemp) ?_;intro k v9 w9 hkt hv9 Ci OO VJ VK))
         obtain⟨e,hel,rfl,-⟩:=D7.out.keys k (HTK.out k hkt)
         have hek:=HTK.out e.path hkt
         have hkl:e.path.length≤1099511627776:=HS2.out.len hel
         have OQ:=rM hkt
         have YO:=Lib.hid (HA.out.step HIT.out OO ag9.out)
         have Ec:=Lib.hid Ci
         have YP:Hid (∀y∈todo.filter fun z=>z !=e.path,y∈N.map Prod.fst):=fun y hy=>HTK.out y (List.mem_filter.1 hy).1
         unfold sv at VK
         by_cases hx:x=e.path
         ·have hb0:(!e.path==x)=false:=by rw[hx];simp
          have HR9:=Lib.hid (HR.out.pass HS2.out.ok hel (.inr hx))
          clear hx HR HIT HTK HA Ci OO VJ hv9 hkt hel hek
          go_wp2_with fail
          go_roundg (todo.filter fun z=>z !=e.path).length
          case measure=>exact OQ
          case rel=>exact⟨M,_,h,v,rfl,HR9,Ec,YP,YO⟩
         ·have hb0:(!e.path==x)=true:=by
           have hx2:¬e.path=x:=fun e2=>hx e2.symm
           simpa using hx2
          have HS9:Hid (aU w9 F s L):=HS2.out.keeps YO.out.keeps fun b hb e2=>HE2.out.far (by cases e2;exact hb)
          have HE9:Hid (Env w9 F s cN cS cR nb):=HE2.out.one yQ.out YO.out.keeps
          have cn9:=HE9.out.n.cell 0
          have cs9:=HE9.out.s.cell 0
          obtain⟨mb,m,q,vt,vq,g1,g2,g3,g4,g5,g6,g7⟩:=HS9.out.ent hel
          obtain⟨qa,qc,rfl,-,-⟩:=g5.shape
          have ds9:=g1.cell 0
          have dq9:=g4.cell 2
          simp only[List.getElem?_toArray,List.getElem?_cons_zero,List.getElem?_cons_succ] at cn9 cs9 ds9 dq9
          unfold pv at cs9
          have KG:=Lib.hid g2
          have Qu:=Yv e.refs _ ⟨x.toArray⟩ w9 g5
          have iG:Hid ((getM m e.path).getD (.pointer none)=.pointer (some ⟨q,0,none⟩)):=by show _=_;rw[g3];rfl
          have HX:Hid (x≠e.path):=hx
          have GI:=Lib.hid hel
          have HEK:=Lib.hid hek
          have HKT:=Lib.hid hkt
          clear g1 g2 g3 g4 g5 g6 g7 hx HIT HTK HA Ci OO VJ hv9 hkt hel hek
          by_cases hin:x∈e.refs
          ·have YQ:Hid (Calls Tryz.prog 39 #[.slice qa e.refs.length qc,.string ⟨x.toArray⟩] w9 fun e w'=>e=.returned (.bool true)∧w9=w'):=Qu.mono (by rintro ed w' ⟨rfl,rfl⟩;exact⟨aF (by simpa using hin),rfl⟩)
           have oG:=Lib.hid hin
           clear Qu hin
           go_upto_region 24 with(fail)
           clear VK
           go_upto_region 25 with(first|(at_lookup;refine oM _ rfl _ _ _ rfl _ _ yc.out Tryz.underlying9 (.pointer none) (Tryz.zeroValue81 _) mb m rfl KG.out e.path rfl hkl ?_;rw[iG.out]))
           refine YQ.out.mono ?_
           rintro ed w10 ⟨rfl,rfl⟩
           go_upto_region 25 with(fail)
           obtain⟨c,hc⟩:∃c,c=mP (out++[x]) e:=⟨_,rfl⟩
           have hcl:c≤1099511627776:=by rw[hc];exact Nat.le_trans (Qo _ _) (HS2.out.fit e GI.out).refs
           obtain⟨c1,VE⟩:∃c1,c1=c+1:=⟨_,rfl⟩
           have q1:(c1:Int)-1=(c:Int):=by omega
           have HV1:Hid ((getM M e.path).getD (.int .i64 0)=.int .i64 c1∧(getM M e.path).isSome=true):=by
            show _∧_
            rw[HR.out.val HS2.out.ok GI.out HEK.out HKT.out oG.out HX.out,←hc,←VE]
            exact⟨rfl,rfl⟩
           have HC:=Lib.hid hc
           have HM9:=Lib.hid Ec.out.map
           clear hc VE KG iG YQ ds9 dq9 cs9
           go_upto_region 26 with(first|(at_lookup;refine eG _ rfl _ _ _ rfl _ _ DL.out Tryz.underlying9 (.int .i64 0) (Tryz.zeroValue3 _) nb M rfl HM9.out e.path rfl hkl ?_;rw[HV1.out.1])|(at_mapUpdate;refine Ol _ rfl _ _ _ _ rfl _ _ DL.out Tryz.underlying9 ir2 nb M _ rfl Ec.out e.path rfl hkl (.int .i64 c) rfl HV1.out.2 ?_;intro w10 Lc hk10 hs10))
           have aaU:(Value.int .i64 c)=zY (mP (out++[x]) e):=by rw[←HC.out];rfl
           rw[aaU] at Lc
           have ZJ:=Lib.hid Lc
           have adb:=Lib.hid Lc.map
           have RJ:=Lib.hid (YO.out.put Lc.map hk10)
           have ahf:=Lib.hid (HE2.out.one yQ.out RJ.out.keeps)
           have ade:=ahf.out.n.cell 0
           simp only[List.getElem?_toArray,List.getElem?_cons_zero] at ade
           have QU:Hid ((getM (jJ M e.path (zY (mP (out++[x]) e))) e.path).getD (.int .i64 0)=.int .i64 c):=by
            show _=_
            rw[fG,if_pos rfl,←aaU]
            rfl
           clear Lc hk10 hs10 HV1 HM9 Ec YO cn9 HS9 HE9 aaU q1
           by_cases hz:c=0
           ·have hb1:((c:Int)==0)=true:=by rw[hz];rfl
            have HZ:Hid (mP (out++[x]) e=0):=by rw[←HC.out];exact hz
            have X9:=Lib.hid (zn e.path w10 RJ.out.heap (by have h1:=HR.out.heap.len (K:=N.map Prod.fst) (fun y hy=>HR.out.map.mem hy.2);have h2:=HKL.out;omega) RJ.out.good)
            unfold hv sv at X9
            clear hz
            go_wp2_with (first|(at_lookup;refine eG _ rfl _ _ _ rfl _ _ DL.out Tryz.underlying9 (.int .i64 0) (Tryz.zeroValue3 _) nb _ rfl adb.out e.path rfl hkl ?_;rw[QU.out]))
            refine X9.out.mono ?_
            rintro ed w11 ⟨rfl,⟨v11,h11,adf,adg,adh,adi⟩,aaV⟩
            have ahg:=Lib.hid (RJ.out.turn adf adh aaV adi)
            have adk:=Lib.hid (ZJ.out.heap RJ.out.heap aaV)
            have aaW:=Lib.hid (HR.out.push HS2.out.ok GI.out HEK.out HKT.out oG.out HX.out HZ.out adg)
            clear adf adg adh adi aaV ade X9 HR
            go_wp2_with fail
            go_roundg (todo.filter fun z=>z !=e.path).length
            case measure=>exact OQ
            case rel=>exact⟨_,_,h11,v11,rfl,aaW,adk,YP,ahg⟩
           ·have hb1:((c:Int)==0)=false:=by rw[beq_eq_false_iff_ne];omega
            have HZ:Hid (mP (out++[x]) e≠0):=by rw[←HC.out];exact hz
            have aaW:=Lib.hid (HR.out.less HS2.out.ok GI.out HEK.out HKT.out oG.out HX.out HZ.out)
            clear hz HR
            go_wp2_with (first|(at_lookup;refine eG _ rfl _ _ _ rfl _ _ DL.out Tryz.underlying9 (.int .i64 0) (Tryz.zeroValue3 _) nb _ rfl adb.out e.path rfl hkl ?_;rw[QU.out]))
            go_roundg (todo.filter fun z=>z !=e.path).length
            case measure=>exact OQ
            case rel=>exact⟨_,_,h,v,rfl,aaW,ZJ,YP,RJ⟩
          ·have YQ:Hid (Calls Tryz.prog 39 #[.slice qa e.refs.length qc,.string ⟨x.toArray⟩] w9 fun e w'=>e=.returned (.bool false)∧w9=w'):=Qu.mono (by rintro ed w' ⟨rfl,rfl⟩;exact⟨aF (by simpa using hin),rfl⟩)
           have HR9:=Lib.hid (HR.out.pass HS2.out.ok GI.out (.inl hin))
           clear Qu hin HR
           go_upto_region 24 with(fail)
           clear VK
           go_wp2_with (first|(at_lookup;refine oM _ rfl _ _ _ rfl _ _ yc.out Tryz.underlying9 (.pointer none) (Tryz.zeroValue81 _) mb m rfl KG.out e.path rfl hkl ?_;rw[iG.out]))
           refine YQ.out.mono ?_
           rintro ed w10 ⟨rfl,rfl⟩
           clear cn9 cs9 ds9 dq9
           go_wp2_with fail
           go_roundg (todo.filter fun z=>z !=e.path).length
           case measure=>exact OQ
           case rel=>exact⟨M,_,h,v,rfl,HR9,Ec,YP,YO⟩
    ·go_upto_region 14 with(first|(at_next;refine sU _ rfl _ rfl ir nb N todo rfl HIT.out (fun h=>absurd h hemp) ?_;intro k v7 w7 hkt hv7 adl aaX aaR adn))
     obtain⟨e,hel,oz,-⟩:=D7.out.keys k (kF.1 ⟨v7,hv7⟩)
     have hvl:=YL.out.map.vals e hel (by rw[oz];exact kF.1 ⟨v7,hv7⟩)
     rw[oz,hv7,Option.some.injEq] at hvl
     obtain⟨n,hn⟩:∃n,n=mP [] e:=⟨_,rfl⟩
     have hnl:n≤1099511627776:=by rw[hn];exact Nat.le_trans (Qo _ _) (HS2.out.fit e hel).refs
     rw[←hn] at hvl
     have hkl:k.length≤1099511627776:=by rw[←oz];exact HS2.out.len hel
     subst hvl
     have ado:=Lib.hid adl
     have HH7:=Lib.hid (HH.out.Bv aaX fun j c T fr hc e2=>HIT.out.eH hc e2)
     have OC:Hid (Keeps Non wA w7):=pO.out.trans aaX fun j hj=>.inr (by cases hj;exact HIB.out)
     have HKT:=Lib.hid hkt
     have HV7:=Lib.hid hv7
     unfold zY sv at adn
     clear hkt hv7 adl aaX aaR hn hel oz HIT pO HH
     by_cases hz:n=0
     ·subst hz
      have X9:=Lib.hid (zn k w7 HH7.out (by have h1:=YL.out.heap.len (K:=N.map Prod.fst) (fun y hy=>YL.out.map.mem hy.2);have h2:=HKL.out;omega) HHN.out)
      unfold hv sv at X9
      go_wp2_with fail
      refine X9.out.mono ?_
      rintro ed w8 ⟨rfl,⟨v8,h8,hh8,VA,hn8,ho8⟩,hk8⟩
      have aaY:=Lib.hid (YL.out.push HKT.out HV7.out VA)
      have HH8:=Lib.hid hh8
      have HN8:=Lib.hid hn8
      have ahk:=Lib.hid (ado.out.heap HH7.out hk8)
      have HO8:Hid (∀b,v8.ownBlock=some b→wA.heap.size≤b):=fun b hb2=>by
       rcases ho8 with h|⟨j,h,hj⟩
       ·rw[h] at hb2
        exact HOW.out b hb2
       ·rw[h] at hb2
        cases hb2
        exact Nat.le_trans OC.out.size hj
      have Ce:Hid (Keeps Non wA w8):=OC.out.trans hk8 fun j hj=>.inr (by
       rcases hj with rfl|hj
       ·exact HHB.out
       ·exact HOW.out j hj)
      have aaZ:=rM HKT.out
      clear hh8 VA hn8 ho8 hk8 adn X9 YL
      go_wp2_with fail
      go_roundg (todo.filter fun x=>x !=k).length
      case measure=>exact aaZ
      case rel=>exact⟨_,h8,v8,rfl,ahk,HH8,HN8,aaY,HO8,Ce⟩
     ·have hb0:((n:Int)==0)=false:=by rw[beq_eq_false_iff_ne];omega
      have aaY:=Lib.hid (YL.out.pass HV7.out hz)
      have aaZ:=rM HKT.out
      clear hz YL
      go_wp2_with fail
      go_roundg (todo.filter fun x=>x !=k).length
      case measure=>exact aaZ
      case rel=>exact⟨_,h,v,rfl,ado,HH7,HHN,aaY,HOW,OC⟩
end Go.Proofs.YtdkogijdfgfpeaaGreatDoor
