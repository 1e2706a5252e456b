/- (*narlaw.World).step: one step on both sides. (Printed by step.py.) -/
import Derived.Test.YtdkogijdfgfpeaaGreatDoorZQGet
import Derived.Test.YtdkogijdfgfpeaaGreatDoorZQClosP
set_option linter.unusedVariables false
namespace Go.Proofs.YtdkogijdfgfpeaaGreatDoor
open Go Go.RowKit
set_option maxHeartbeats 6400000
set_option maxRecDepth 100000
structure qR(X:List Part)(D:LD)(w W0:World)(o:xK):Prop where
 parts:Parts (X++au D) w
 low:dY W0∈X
 op:uZ W0 o
 tabs:Tabs W0
 np:D.ps.length≤1000000
 nl:D.ls.length≤1000000
 nt:D.ts.length≤1000000
def iW(X:List Part)(D:LD)(e:Ending)(w':World):Prop:=e=.returned (.bool true)∧∃D',D.Next D'∧Parts (X++au D') w'
theorem aa2:(Tryz.prog.info? 132).map (fun i=>(i.zero,i.size,i.bytes))=some (some (.agg #[.pointer none,.pointer none]),2,16):=by kernel_rfl
theorem adx{w w':World}{L:aH}{roots:List (List UInt8)}{ed:Ending}(h:Eb w L roots ed w'):
 ∃(ca:Option Addr) (cn:Nat) (T:List (List UInt8)) (er:Int),ed=.returned (.tuple #[.slice ca T.length cn,.int .i64 er])∧Sl w' w.heap.size 9 1 (.slice ca T.length cn) T.length (bf T)∧Keeps Non w w'∧
  (((∃r∈roots,aA L r=none)∧er=15∧T=[])∨((∀r∈roots,(aA L r).isSome=true)∧∃K,rO L roots K∧er=0∧T=jO L K)):=by
 rcases h with⟨hf,rfl,hk⟩|⟨hf,K,v,hK,rfl,hs,hk⟩
 ·exact⟨none,0,[],_,rfl,Sl.nil _ _ _ _,hk,.inl ⟨hf,rfl,rfl⟩⟩
 ·obtain⟨a1,c1,rfl,-,-⟩:=hs.shape
  exact⟨a1,c1,_,_,rfl,hs,hk,.inr ⟨hf,K,hK,rfl,rfl⟩⟩
theorem iL.before{w w0 w':World}{F:Nat→Prop}{s:Nat}{R:Int×aH}{ed:Ending}(h:iL w0 F s R ed w')(k:Keeps Non w w0):iL w F s R ed w':=by
 obtain⟨h1,⟨F',h2,h3⟩,h4⟩:=h
 have:=k.size
 exact⟨h1,⟨F',h2,fun j hj=>(h3 j hj).imp id fun h=>⟨by omega,h.2⟩⟩,(k.mono fun _ _ h=>h.elim).trans h4 fun _ h=>.inl h⟩
theorem iL.after{w w1 w':World}{F:Nat→Prop}{s:Nat}{R:Int×aH}{ed:Ending}(h:iL w F s R ed w1)(k:Keeps Non w1 w'):iL w F s R ed w':=by
 obtain⟨h1,⟨F',h2,h3⟩,h4⟩:=h
 have:=k.size
 exact⟨h1,⟨F',h2.non k,fun j hj=>(h3 j hj).imp id fun h=>⟨h.1,by omega⟩⟩,h4.trans k fun _ h=>h.elim⟩
theorem tq{X:List Part}{D:LD}{w:World}{p:Pr}{q:Part}(h:Parts (X++au D) w)(hq:q∈X)(hp:p∈D.ps):∀j,q.S j→¬(bF p).S j:=
 (List.pairwise_append.1 h.sep).2.2 q hq (bF p) (by simp only[au,List.mem_append,List.mem_map];exact .inr (.inl ⟨p,hp,rfl⟩))
theorem VL{W:World}{o:xK}(h:uZ W o):jr o.l∧(aJ o.l).length≤70368744177664:=by
 refine⟨fun n hn=>by have:=h.nl n hn;omega,?_⟩
 have h1:=Aj o.l
 have h2:∀l:List Node,(∀x∈l,x.path.length≤1048576∧x.data.length≤1048576)→(l.map fun x=>x.path.length+x.data.length).sum≤l.length*2097152:=by
  intro l
  induction l with
  |nil=>intro _;simp
  |cons x r ih=>
   intro hx
   have h3:=ih fun y hy=>hx y (List.mem_cons_of_mem _ hy)
   have h4:=hx x (List.mem_cons_self ..)
   simp only[List.map_cons,List.sum_cons,List.length_cons,Nat.succ_mul]
   omega
 have h3:=h2 o.l h.nl
 have h4:=h.ll
 have h5:o.l.length*2097152≤1048576*2097152:=Nat.mul_le_mul_right _ h4
 omega
theorem VO{X:List Part}{D:LD}{w W0:World}{o:xK}(hin:qR X D w W0 o)(hkind:o.kind=1):
 Calls Tryz.prog 32 #[pv D.b,.agg (opC o).toArray] w (iW X D):=by
 obtain⟨kind,a,c,s,bb,vl,vm,vd,L,M,Dd⟩:=o
 simp only at hkind
 subst hkind
 obtain⟨la,lc,hsl,hl1,hl2⟩:=hin.op.rl.shape
 obtain⟨ma,mc,hsm,hm1,hm2⟩:=hin.op.rm.shape
 obtain⟨da,dc,hsd,hd1,hd2⟩:=hin.op.rd.shape
 simp only at hsl hsm hsd hl1 hm1 hd1
 subst hsl hsm hsd
 have oG:=Lib.hid hin
 have hnp:=hin.np
 have hnl:=hin.nl
 have hnt:=hin.nt
 have G6:=hin.op.ll
 have G7:=hin.op.lm
 have G8:=hin.op.ls
 have hia:=hin.op.ia
 simp only at G6 G7 G8 hia
 unfold maxLen at hl2 hm2 hd2
 have fJ:Hid (Parts (aj w.heap.size (opC ⟨1,a,c,s,bb,.slice la L.length lc,.slice ma M.length mc,.slice da Dd.length dc,L,M,Dd⟩).toArray dF :: (X++au D)) (w.alloc (.cells (opC ⟨1,a,c,s,bb,.slice la L.length lc,.slice ma M.length mc,.slice da Dd.length dc,L,M,Dd⟩).toArray dF))):=hin.parts.blk _ _
 clear hin
 unfold pv opC at *
 go_enter Tryz.func32,Tryz.ntmps32
 go_upto_region 1 with(fail)
 generalize w.heap.size=ob at *
 generalize w.alloc (.cells (List.toArray [.int .i64 1,.int .i64 a,.int .i64 c,.string s,.string bb,.slice la L.length lc,.slice ma M.length mc,.slice da Dd.length dc]) 67)=w1 at *
 have hob:aS w1 ob (List.toArray [.int .i64 1,.int .i64 a,.int .i64 c,.string s,.string bb,.slice la L.length lc,.slice ma M.length mc,.slice da Dd.length dc]) dF:=fJ.out.head
 have qU:=hob.cell 0
 have op1:=hob.cell 1
 simp only[List.getElem?_toArray,List.getElem?_cons_zero,List.getElem?_cons_succ] at qU op1
 clear hob
 have hT1:kV≤w1.heap.size:=Nat.le_trans oG.out.tabs.top (kS (X:=aj ob _ dF :: X) fJ.out (List.mem_cons_of_mem _ oG.out.low)).size
 have hw1:w1.heap.size=w1.heap.size:=rfl
 go_wp2_with fail
 refine(Jb w1 hT1).mono ?_
 rintro e w2 ⟨x,st,F,rfl,hx,hbx,hst,hF,hFx,hk2⟩
 have VP:=Lib.hid hbx
 have HST:=Lib.hid hst
 have HF:=Lib.hid hF
 have HFX:=Lib.hid hFx
 have HX:=Lib.hid hx
 have HP2:Hid (Parts (aj ob (List.toArray [.int .i64 1,.int .i64 a,.int .i64 c,.string s,.string bb,.slice la L.length lc,.slice ma M.length mc,.slice da Dd.length dc]) dF :: (X++au D)) w2):=fJ.out.non hk2
 have iP:=Lib.hid hk2
 have hbd:=dR (X:=aj ob _ dF :: X) HP2.out
 have hss:=uy (X:=aj ob _ dF :: X) HP2.out
 obtain⟨sa,sc,hsv,hs1,hs2⟩:=hss.shape
 unfold maxLen at hs2
 have c0:w2.cell? ⟨D.b,0,none⟩=some (.slice sa D.ps.length sc):=by rw[←hsv];exact hbd.cell 0
 rw[hsv] at hss
 have zu:=Lib.hid hsv
 have rD:=Lib.hid hss
 clear hx hbx hst hF hFx hk2 qU op1 hbd hsv hss hT1 hw1
 unfold pv
 obtain⟨i1,hj,hj0,hj1,hj2⟩:=info_parts aa2
 go_upto_region 6 with(fail)
 obtain⟨rb,hrb⟩:∃rb,w2.heap.size=rb:=⟨_,rfl⟩
 have xJ:=Lib.hid hrb
 clear hrb
 go_wp2_with (at_builtin;refine ay rfl _ _ 70 70 rfl 132 i1 _ 2 16 Tryz.underlying70 hj hj0 hj1 hj2 rfl 0 _ _ _ rfl _ rfl 1 [.pointer (some ⟨x,0,none⟩),.pointer (some ⟨w2.heap.size,0,none⟩)] ?Om ((rD.out.alloc _).alloc _) ?Oo ?Oq ?Ot ?_)
 try (case Om=>omega)
 case Oo=>
  have h1:=Sl.dM (w2.alloc (.cells #[.slice none 0 0] 130)) 0 (Nat.zero_le _) 132 2 1 [.pointer (some ⟨x,0,none⟩),.pointer (some ⟨w2.heap.size,0,none⟩)] rfl (by simp[maxLen])
  have hz:(w2.alloc (.cells #[.slice none 0 0] 130)).heap.size=w2.heap.size+1:=by simp
  rw[hz] at h1
  exact Src.kP Tryz.underlying70 h1 (by intro u hu;simp only[List.mem_cons,List.not_mem_nil,or_false] at hu;rcases hu with rfl|rfl <;> rfl)
 case Oq=>unfold maxLen;omega
 case Ot=>omega
 intro ao cc w4 hs4 hk4 zi hb4
 have Qr:Keeps Non w2 ((w2.alloc (.cells #[.slice none 0 0] 130)).alloc (.cells #[.pointer (some ⟨x,0,none⟩),.pointer (some ⟨w2.heap.size,0,none⟩)] 132)):=((Keeps.refl _ _).alloc _).alloc _
 have Qc:aS ((w2.alloc (.cells #[.slice none 0 0] 130)).alloc (.cells #[.pointer (some ⟨x,0,none⟩),.pointer (some ⟨w2.heap.size,0,none⟩)] 132)) w2.heap.size #[.slice none 0 0] 130:=(aS.new w2 _ _).alloc _
 have hxl:=VP.out.lt
 have FW:Hid (Parts (bF ⟨x,st,w2.heap.size,F,One w2.heap.size,[]⟩ :: ((aj ob (List.toArray [.int .i64 1,.int .i64 a,.int .i64 c,.string s,.string bb,.slice la L.length lc,.slice ma M.length mc,.slice da Dd.length dc]) dF :: X)++au D)) ((w2.alloc (.cells #[.slice none 0 0] 130)).alloc (.cells #[.pointer (some ⟨x,0,none⟩),.pointer (some ⟨w2.heap.size,0,none⟩)] 132))):=by
  refine Parts.add (w:=w1) fJ.out ⟨VP.out.keeps Qr fun h=>h,HFX.out,fun h=>?_,fun k hk hg=>?_,HST.out.non Qr,CO.empty Qc⟩ (iP.out.tn Qr) fun j hj=>?_
  ·have:x=w2.heap.size:=h
   omega
  ·have h1:=HST.out.lt k hk
   have:k=w2.heap.size:=hg
   omega
  ·rcases hj with rfl|hj|hj
   ·exact HX.out
   ·exact HF.out j hj
   ·have:j=w2.heap.size:=hj
    have:=iP.out.size
    omega
 have HB4:Hid (aS w4 D.b (gu D) x9):=(dR (X:=bF _ :: aj ob _ dF :: X) FW.out).kp hk4 (.inr (by decide))
 have U9:Hid (Parts ((aj ob (List.toArray [.int .i64 1,.int .i64 a,.int .i64 c,.string s,.string bb,.slice la L.length lc,.slice ma M.length mc,.slice da Dd.length dc]) dF :: X)++au (D.paired (.slice ao (D.ps.length+1) cc) ⟨x,st,w2.heap.size,F,One w2.heap.size,[]⟩)) (w4.setCell ⟨D.b,0,none⟩ (.slice ao (D.ps.length+1) cc))):=
  OD (X:=aj ob _ dF :: X) FW.out hs4 (by rw[zu.out];exact zi) (by
   rcases hb4 with h1|h1
   ·exact .inl (by rw[zu.out];exact h1)
   ·exact .inr ⟨_,h1,by simp⟩)
 have c0':w4.cell? ⟨D.b,0,none⟩=some D.Gf:=HB4.out.cell 0
 have f0:=HB4.out.free 0
 clear hs4 hk4 zi hb4 Qr Qc hj hj0 hj1 hj2 c0
 go_wp2_with fail
 go_ret
 exact⟨rfl,_,LD.KW D _ _,U9.out.tail⟩
theorem VQ{X:List Part}{D:LD}{w W0:World}{o:xK}(hin:qR X D w W0 o)(hkind:o.kind=2):
 Calls Tryz.prog 32 #[pv D.b,.agg (opC o).toArray] w (iW X D):=by
 obtain⟨kind,a,c,s,bb,vl,vm,vd,L,M,Dd⟩:=o
 simp only at hkind
 subst hkind
 obtain⟨la,lc,hsl,hl1,hl2⟩:=hin.op.rl.shape
 obtain⟨ma,mc,hsm,hm1,hm2⟩:=hin.op.rm.shape
 obtain⟨da,dc,hsd,hd1,hd2⟩:=hin.op.rd.shape
 simp only at hsl hsm hsd hl1 hm1 hd1
 subst hsl hsm hsd
 have oG:=Lib.hid hin
 have hnp:=hin.np
 have hnl:=hin.nl
 have hnt:=hin.nt
 have G6:=hin.op.ll
 have G7:=hin.op.lm
 have G8:=hin.op.ls
 have hia:=hin.op.ia
 simp only at G6 G7 G8 hia
 unfold maxLen at hl2 hm2 hd2
 have fJ:Hid (Parts (aj w.heap.size (opC ⟨2,a,c,s,bb,.slice la L.length lc,.slice ma M.length mc,.slice da Dd.length dc,L,M,Dd⟩).toArray dF :: (X++au D)) (w.alloc (.cells (opC ⟨2,a,c,s,bb,.slice la L.length lc,.slice ma M.length mc,.slice da Dd.length dc,L,M,Dd⟩).toArray dF))):=hin.parts.blk _ _
 clear hin
 unfold pv opC at *
 go_enter Tryz.func32,Tryz.ntmps32
 go_upto_region 1 with(fail)
 generalize w.heap.size=ob at *
 generalize w.alloc (.cells (List.toArray [.int .i64 2,.int .i64 a,.int .i64 c,.string s,.string bb,.slice la L.length lc,.slice ma M.length mc,.slice da Dd.length dc]) 67)=w1 at *
 have hob:aS w1 ob (List.toArray [.int .i64 2,.int .i64 a,.int .i64 c,.string s,.string bb,.slice la L.length lc,.slice ma M.length mc,.slice da Dd.length dc]) dF:=fJ.out.head
 have qU:=hob.cell 0
 have op1:=hob.cell 1
 simp only[List.getElem?_toArray,List.getElem?_cons_zero,List.getElem?_cons_succ] at qU op1
 clear hob
 have hbd:=dR (X:=aj ob _ dF :: X) fJ.out
 have hss:=uy (X:=aj ob _ dF :: X) fJ.out
 obtain⟨sa,sc,hsv,hs1,hs2⟩:=hss.shape
 unfold maxLen at hs2
 have c0:w1.cell? ⟨D.b,0,none⟩=some (.slice sa D.ps.length sc):=by rw[←hsv];exact hbd.cell 0
 rw[hsv] at hss
 have rD:=Lib.hid hss
 have zu:=Lib.hid hsv
 clear hsv hss hbd
 by_cases hz:D.ps.length=0
 ·rw[hz] at c0
  have BZ:=fJ
  go_wp2_with fail
  go_ret
  exact⟨rfl,D,LD.Next.refl D,BZ.out.tail⟩
 ·obtain⟨kk,hkk,oN⟩:=jX a (D.ps.length:Int) (by omega)
  have jY:kk<D.ps.length:=by omega
  obtain⟨p,hp⟩:∃p,D.ps[kk]? =some p:=⟨_,List.getElem?_eq_getElem jY⟩
  have vF:Hid (∀wx,Calls Tryz.prog 60 #[.int .i64 a,.int .i64 D.ps.length] wx fun e w'=>e=.returned (.int .i64 kk)∧wx=w'):=fun wx=>by
   have:=pick_any a (D.ps.length:Int) wx hia.1 hia.2 (by omega) (by omega)
   rw[hkk] at this
   exact this
  have lY:Hid (p∈D.ps):=List.mem_of_getElem? hp
  obtain⟨b',o',c',hsh,-,-,-,kZ,hcc,-⟩:=rD.out.pos (by omega)
  obtain⟨rfl,rfl⟩:sa=some ⟨b',o',none⟩∧sc=c':=by cases hsh;exact⟨rfl,rfl⟩
  clear hsh
  have hat:=jW D.ps kk p hp
  have s0:w1.cell? ⟨b',o'+kk*2,none⟩=some (pv p.x):=(hcc _ (by omega)).trans hat.1
  have s1:w1.cell? ⟨b',o'+kk*2+1,none⟩=some (pv p.r):=by rw[Nat.add_assoc];exact(hcc _ (by omega)).trans hat.2
  obtain⟨px,st,r,F,G,E⟩:=p
  unfold pv at s0 s1
  simp only at s0 s1
  have q2:(0:Int)≤(kk:Int):=by omega
  have q3:(kk:Int)<(D.ps.length:Int):=by omega
  clear hcc hat hp hkk oN
  go_upto_region 10 with(fail)
  have iD:Hid (∀wx,Keeps Non w1 wx→wx.cell? ⟨D.b,0,none⟩=some (.slice (some ⟨b',o',none⟩) D.ps.length sc)∧wx.cell? ⟨ob,1,none⟩=some (.int .i64 a)∧wx.cell? ⟨b',o'+kk*2,none⟩=some (.pointer (some ⟨px,0,none⟩))∧wx.cell? ⟨b',o'+kk*2+1,none⟩=some (.pointer (some ⟨r,0,none⟩))):=fun wx hk=>by
   have hbl:=hk.below (Nat.le_refl _) (fun _ _ h=>h)
   have h1:=(dR (X:=aj ob _ dF :: X) fJ.out).keeps hk fun h=>h
   have h2:aS wx ob (List.toArray [.int .i64 2,.int .i64 a,.int .i64 c,.string s,.string bb,.slice la L.length lc,.slice ma M.length mc,.slice da Dd.length dc]) dF:=(show aS w1 ob _ dF from fJ.out.head).keeps hk fun h=>h
   refine⟨?_,h2.cell 1,(hbl.cell (p:=⟨b',o'+kk*2,none⟩) kZ).trans s0,(hbl.cell (p:=⟨b',o'+kk*2+1,none⟩) kZ).trans s1⟩
   rw[←zu.out]
   exact h1.cell 0
  have q4:IntKind.i64.wrap (kk:Int)=(kk:Int):=IntWalk.i64_in _ (by omega)
  have hc:Keeps Non w1 w1:=Keeps.refl _ _
  go_cut [6] (fun v6 wx=>∃pb,v6=.pointer (some ⟨pb,0,none⟩)∧Hid (Parts (aj pb #[.pointer (some ⟨px,0,none⟩),.pointer (some ⟨r,0,none⟩)] ji :: aj ob (List.toArray [.int .i64 2,.int .i64 a,.int .i64 c,.string s,.string bb,.slice la L.length lc,.slice ma M.length mc,.slice da Dd.length dc]) dF :: (X++au D)) wx))
  case first=>
   go_region_held3 (fun w'=>w'.cell? ⟨D.b,0,none⟩=some (.slice (some ⟨b',o',none⟩) D.ps.length sc)∧w'.cell? ⟨ob,1,none⟩=some (.int .i64 a)∧w'.cell? ⟨b',o'+kk*2,none⟩=some (.pointer (some ⟨px,0,none⟩))∧w'.cell? ⟨b',o'+kk*2+1,none⟩=some (.pointer (some ⟨r,0,none⟩))) (first|exact⟨c0,op1,s0,s1⟩|exact iD.out _ hc|exact iD.out _ hc.drew|exact iD.out _ (hc.alloc _)|exact iD.out _ (hc.drew.alloc _)) (first
    |(go_at_call 60
      refine(vF.out _).mono ?_
      rintro e w2 ⟨rfl,rfl⟩))
   all_goals (
    go_wp2_with fail
    go_meet
    first
     |exact⟨_,rfl,fJ.out.blk _ _⟩
     |exact⟨_,rfl,(fJ.out.blk _ _).non (Keeps.refl _ _).drew⟩
     |exact⟨_,rfl,(fJ.out.non (Keeps.refl _ _).drew).blk _ _⟩
     |exact⟨_,rfl,((fJ.out.non (Keeps.refl _ _).drew).blk _ _).non (Keeps.refl _ _).drew⟩
     |exact⟨_,rfl,(fJ.out.blk _ _).non ((Keeps.refl _ _).drewN _)⟩
     |exact⟨_,rfl,((fJ.out.non ((Keeps.refl _ _).drewN _)).blk _ _).non ((Keeps.refl _ _).drewN _)⟩)
  case rest=>
   obtain⟨pb,hsh,HP⟩:=hcut
   subst hsh
   clear s0 s1 c0 qU op1 rD zu vF fJ iD hc
   generalize wc=w2 at *
   have hob:aS w2 ob (List.toArray [.int .i64 2,.int .i64 a,.int .i64 c,.string s,.string bb,.slice la L.length lc,.slice ma M.length mc,.slice da Dd.length dc]) dF:=HP.out.all (aj ob _ dF) (by simp)
   have hpb:aS w2 pb #[.pointer (some ⟨px,0,none⟩),.pointer (some ⟨r,0,none⟩)] ji:=HP.out.head
   have hpr:=lX (X:=aj pb _ ji :: aj ob _ dF :: X) HP.out lY.out
   have sF:=Lib.hid hpr
   have qU:=hob.cell 0
   have Cj:=hob.cell 3
   have FX:=hob.cell 5
   have Ac:=hob.cell 6
   have p0:=hpb.cell 0
   have p1:=hpb.cell 1
   have x0:=hpr.box.cell 0
   unfold pv at x0
   simp only[List.getElem?_toArray,List.getElem?_cons_zero,List.getElem?_cons_succ] at qU Cj FX Ac p0 p1 x0
   clear hob hpb hpr
   have HP2:=HP
   obtain⟨i0,hi,hi0,hi1,hi2⟩:=info_parts I4
   obtain⟨i1,hj,hj0,hj1,hj2⟩:=info_parts lM
   have adz:Hid (∀wx,Keeps Non w2 wx→uZ wx ⟨2,a,c,s,bb,.slice la L.length lc,.slice ma M.length mc,.slice da Dd.length dc,L,M,Dd⟩):=fun wx hk=>oG.out.op.low (kS (X:=aj pb _ ji :: aj ob _ dF :: X) (HP2.out.non hk) (List.mem_cons_of_mem _ (List.mem_cons_of_mem _ oG.out.low)))
   go_wp2_with (at_builtin;refine ay rfl _ _ 50 50 rfl 49 i0 _ 3 40 Tryz.underlying50 hi hi0 hi1 hi2 rfl w2.heap.size _ 0 [] rfl _ rfl L.length (ak L) ?d11 (Sl.nil _ _ _ _) ?d12 ?d13 ?Gg ?_)
   try (case d11=>exact Nat.le_refl _)
   case d12=>exact Src.yY Tryz.underlying50 (adz.out w2 (Keeps.refl _ _)).rl (Am L)
   case d13=>unfold maxLen;omega
   case Gg=>omega
   intro JL JM w3 hs3 hk3 jY hb3
   have kL:Hid (Keeps Non w2 w3):=jY.mono fun j _ hj=>by cases hj
   have CJ:Hid (Sl w3 w2.heap.size 49 3 (.slice JL L.length JM) L.length (ak L)):=by
    show Sl _ _ _ _ _ _ _
    simpa using hs3
   have lQ:=Lib.hid (HP2.out.put kL.out CJ.out)
   have hob:aS w3 ob (List.toArray [.int .i64 2,.int .i64 a,.int .i64 c,.string s,.string bb,.slice la L.length lc,.slice ma M.length mc,.slice da Dd.length dc]) dF:=lQ.out.all (aj ob _ dF) (by simp)
   have Ac:=hob.cell 6
   simp only[List.getElem?_toArray,List.getElem?_cons_zero,List.getElem?_cons_succ] at Ac
   clear hs3 hk3 jY hb3 hob qU Cj FX p0 p1 x0 hi hi0 hi1 hi2 HP
   go_wp2_with (at_builtin;refine ay rfl _ _ 26 26 rfl 9 i1 _ 1 16 Tryz.underlying26 hj hj0 hj1 hj2 rfl w3.heap.size _ 0 [] rfl _ rfl M.length (bf M) ?Om (Sl.nil _ _ _ _) ?Oo ?Oq ?Ot ?_)
   try (case Om=>exact Nat.le_refl _)
   case Oo=>exact Src.yY Tryz.underlying26 (adz.out w3 kL.out).rm (fun u hu=>by obtain⟨_,_,rfl⟩:=List.mem_map.1 hu;rfl)
   case Oq=>unfold maxLen;omega
   case Ot=>omega
   intro FU BG w4 hs4 hk4 zi hb4
   have hkn:Keeps Non w3 w4:=zi.mono fun j _ hj=>by cases hj
   have wS:=Lib.hid (kL.out.tn hkn)
   have HS4:Hid (Sl w4 w3.heap.size 9 1 (.slice FU M.length BG) M.length (bf M)):=by
    show Sl _ _ _ _ _ _ _
    simpa using hs4
   have zZ:=Lib.hid (lQ.out.put hkn HS4.out)
   obtain⟨XX,YT⟩:∃XX,aG iw 1 (.slice FU M.length BG) M.length (bf M) :: aG uQ 3 (.slice JL L.length JM) L.length (ak L) :: aj pb #[.pointer (some ⟨px,0,none⟩),.pointer (some ⟨r,0,none⟩)] ji :: aj ob (List.toArray [.int .i64 2,.int .i64 a,.int .i64 c,.string s,.string bb,.slice la L.length lc,.slice ma M.length mc,.slice da Dd.length dc]) dF :: X=XX:=⟨_,rfl⟩
   have FW:Hid (Parts (XX++au D) w4):=by rw[←YT];exact zZ.out
   have ZL:=Lib.hid YT
   have Ld:=Lib.hid (lX FW.out lY.out)
   have HT4:=Lib.hid (oG.out.tabs.below (kS FW.out (by rw[←YT];simp[oG.out.low])) oG.out.tabs.top)
   have VR:Hid (Rd w4 3 (.slice JL L.length JM) L.length (ak L)):=(show Sl w4 0 uQ 3 _ _ _ from zZ.out.tail.head).rd
   have adA:Hid (Rd w4 1 (.slice FU M.length BG) M.length (bf M)):=(show Sl w4 0 iw 1 _ _ _ from zZ.out.head).rd
   have Jm:Hid (jr L∧(aJ L).length≤70368744177664):=VL oG.out.op
   have UO:Hid (∀r∈M,r.length≤1099511627776):=fun r hr=>by have:=oG.out.op.nm r hr;omega
   obtain⟨R,hR⟩:∃R,qN E s.data.toList L M=R:=⟨_,rfl⟩
   have ZM:Hid (∀wx,Keeps Non w4 wx→Calls Tryz.prog 24 #[.pointer (some ⟨st,0,none⟩),.string s,.slice JL L.length JM,.slice FU M.length BG] wx (iL w4 F st R)):=fun wx hk=>by
    rw[←hR]
    exact(Ov wx (Ld.out.st.non hk) (HT4.out.keeps hk) s (by omega) L _ (VR.out.non hk) Jm.out.1 Jm.out.2 M _ (adA.out.non hk) (by omega) UO.out).mono fun e w' h=>h.before hk
   have HRR:=Lib.hid hR
   have iD:Hid (∀wx,Keeps F w4 wx→wx.cell? ⟨pb,0,none⟩=some (.pointer (some ⟨px,0,none⟩))∧wx.cell? ⟨px,0,none⟩=some (.pointer (some ⟨st,0,none⟩))∧wx.cell? ⟨ob,3,none⟩=some (.string s)∧wx.cell? ⟨pb,1,none⟩=some (.pointer (some ⟨r,0,none⟩))∧wx.cell? ⟨ob,5,none⟩=some (.slice la L.length lc)∧wx.cell? ⟨ob,6,none⟩=some (.slice ma M.length mc)):=fun wx hk=>by
    have m1:aj ob (List.toArray [.int .i64 2,.int .i64 a,.int .i64 c,.string s,.string bb,.slice la L.length lc,.slice ma M.length mc,.slice da Dd.length dc]) dF∈XX:=by rw[←ZL.out];simp
    have m2:aj pb #[.pointer (some ⟨px,0,none⟩),.pointer (some ⟨r,0,none⟩)] ji∈XX:=by rw[←ZL.out];simp
    have hob:aS wx ob (List.toArray [.int .i64 2,.int .i64 a,.int .i64 c,.string s,.string bb,.slice la L.length lc,.slice ma M.length mc,.slice da Dd.length dc]) dF:=(show aS w4 ob _ dF from FW.out.all _ (List.mem_append_left _ m1)).keeps hk fun h=>tq FW.out m1 lY.out ob rfl (.inr (.inl h))
    have hpb:aS wx pb #[.pointer (some ⟨px,0,none⟩),.pointer (some ⟨r,0,none⟩)] ji:=(show aS w4 pb _ ji from FW.out.all _ (List.mem_append_left _ m2)).keeps hk fun h=>tq FW.out m2 lY.out pb rfl (.inr (.inl h))
    have hbx:=Ld.out.box.keeps hk Ld.out.nF
    exact⟨hpb.cell 0,hbx.cell 0,hob.cell 3,hpb.cell 1,hob.cell 5,hob.cell 6⟩
   obtain⟨p0,x0,Cj,-,-,-⟩:=iD.out w4 (Keeps.refl _ _)
   have hc:Keeps F w4 w4:=Keeps.refl _ _
   clear hs4 hk4 zi hb4 hkn Ac hj hj0 hj1 hj2 YT hR CJ HS4 kL lQ sF
   go_upto_region 15 with(fail)
   go_cut [9] (fun v wx=>v=.int .i64 R.1∧Hid (iL w4 F st R (.returned (.int .i64 R.1)) wx))
   case first=>
    have hN:Keeps Non w4 w4:=Keeps.refl _ _
    go_region_held3 (fun w'=>w'.cell? ⟨pb,0,none⟩=some (.pointer (some ⟨px,0,none⟩))∧w'.cell? ⟨px,0,none⟩=some (.pointer (some ⟨st,0,none⟩))∧w'.cell? ⟨ob,3,none⟩=some (.string s)) (first|exact⟨p0,x0,Cj⟩) (first
     |(go_at_call 24
       refine(ZM.out _ (by first|exact hN|exact hN.drew)).mono ?_
       rintro e w5 hp
       have he:=hp.1
       subst he
       have YU:=Lib.hid hp
       clear hp
       replace hc:Keeps F w4 w5:=YU.out.2.2
       obtain⟨p0,x0,Cj,-,-,-⟩:=iD.out _ hc))
    all_goals (
     go_wp2_with fail
     go_meet
     exact⟨rfl,by first|exact YU|exact YU.out.after (Keeps.refl _ _).drew⟩)
   case rest=>
    obtain⟨rfl,YU⟩:=hcut
    generalize wc=w5 at *
    obtain⟨-,-,Cj,p1,FX,Ac⟩:=iD.out w5 YU.out.2.2
    have hlow:Below W0.heap.size W0 w5:=by
     have m3:dY W0∈XX:=by rw[←ZL.out];simp[oG.out.low]
     exact(dY W0).st w4 w5 F (FW.out.all _ (List.mem_append_left _ m3)) YU.out.2.2 fun k hk hF=>tq FW.out m3 lY.out k hk (.inr (.inl hF))
    have aa3:=Lib.hid (oG.out.op.low hlow)
    have F7:=Lib.hid (Ld.out.qt.keeps YU.out.2.2 fun b hb hF=>Ld.out.FG b hF hb)
    have D7:Hid (Calls Tryz.prog 61 #[.pointer (some ⟨r,0,none⟩),.string s,.slice la L.length lc,.slice ma M.length mc] w5 (jF w5 G r R)):=by
     have h1:=KT w5 F7.out Ld.out.st.ok Ld.out.st.fit s (by omega) L _ aa3.out.rl Jm.out.1 (by omega) Jm.out.2 M _ aa3.out.rm (by omega) UO.out
     simp only at h1
     rw[HRR.out] at h1
     exact h1
    clear hlow p0 x0 hc iD ZM F7 aa3 VR adA HT4
    go_wp2_with fail
    refine D7.out.mono ?_
    rintro e w6 hq
    have he:=hq.1
    subst he
    obtain⟨D',hDb,hDp,hDs,hDl,hDt,D6⟩:=OE lY.out FW.out YU.out hq
    have Gl:Hid (Parts (aG uQ 3 (.slice JL L.length JM) L.length (ak L) :: ((aG iw 1 (.slice FU M.length BG) M.length (bf M) :: aj pb #[.pointer (some ⟨px,0,none⟩),.pointer (some ⟨r,0,none⟩)] ji :: aj ob (List.toArray [.int .i64 2,.int .i64 a,.int .i64 c,.string s,.string bb,.slice la L.length lc,.slice ma M.length mc,.slice da Dd.length dc]) dF :: X)++au D')) w6):=by
     rw[←ZL.out] at D6
     exact D6.perm (List.Perm.swap ..)
    have ahw:D'.ts.length≤1000000:=by rw[hDt];exact hnt
    have aa5:D'.ls.length≤1000000:=by rw[hDl];exact hnl
    have Ad:Hid (∀CP u n zf v m,D.Next ((D'.ny CP u n).jl zf v m)):=fun CP u n zf v m=>⟨hDb,by simp[LD.ny,LD.jl];omega,by simp[LD.ny,LD.jl,hDs],by simp[LD.ny,LD.jl,hDl],by simp[LD.ny,LD.jl,hDt],fun x hx=>.inl (by simpa [LD.ny,LD.jl,hDs] using hx)⟩
    have Le:=Lib.hid hDb
    clear hDb hDp hDs hDl hDt D6 hq D7 Cj FX Ac p1 YU FW zZ Ld
    have herr:(R.1==R.1)=true:=beq_self_eq_true _
    generalize R.1=z at *
    have HNC:=Lib.hid (Az (aG iw 1 (.slice FU M.length BG) M.length (bf M) :: aj pb #[.pointer (some ⟨px,0,none⟩),.pointer (some ⟨r,0,none⟩)] ji :: aj ob (List.toArray [.int .i64 2,.int .i64 a,.int .i64 c,.string s,.string bb,.slice la L.length lc,.slice ma M.length mc,.slice da Dd.length dc]) dF :: X) D' w6 (.slice JL L.length JM) L Gl.out (by omega) ahw)
    rw[Le.out] at HNC
    go_wp2_with fail
    refine HNC.out.mono ?_
    rintro e w7 ⟨rfl,vts',v',Qd⟩
    have YJ:=Lib.hid Qd
    clear Qd HNC Gl
    have HMC:=Lib.hid (sV (aj pb #[.pointer (some ⟨px,0,none⟩),.pointer (some ⟨r,0,none⟩)] ji :: aj ob (List.toArray [.int .i64 2,.int .i64 a,.int .i64 c,.string s,.string bb,.slice la L.length lc,.slice ma M.length mc,.slice da Dd.length dc]) dF :: X) (D'.ny vts' v' (L.length+2)) w7 (.slice FU M.length BG) M.length (bf M) YJ.out (by omega) aa5)
    rw[show(D'.ny vts' v' (L.length+2)).b=D.b from Le.out] at HMC
    go_wp2_with fail
    refine HMC.out.mono ?_
    rintro e w8 ⟨rfl,vls',v2,VA⟩
    have HP8:=Lib.hid VA
    clear VA HMC YJ
    go_wp2_with fail
    go_ret
    exact⟨rfl,_,Ad.out _ _ _ _ _ _,HP8.out.tail.tail⟩
theorem VT{X:List Part}{D:LD}{w W0:World}{o:xK}(hin:qR X D w W0 o)(hkind:o.kind=3):
 Calls Tryz.prog 32 #[pv D.b,.agg (opC o).toArray] w (iW X D):=by
 obtain⟨kind,a,c,s,bb,vl,vm,vd,L,M,Dd⟩:=o
 simp only at hkind
 subst hkind
 obtain⟨la,lc,hsl,hl1,hl2⟩:=hin.op.rl.shape
 obtain⟨ma,mc,hsm,hm1,hm2⟩:=hin.op.rm.shape
 obtain⟨da,dc,hsd,hd1,hd2⟩:=hin.op.rd.shape
 simp only at hsl hsm hsd hl1 hm1 hd1
 subst hsl hsm hsd
 have oG:=Lib.hid hin
 have hnp:=hin.np
 have hnl:=hin.nl
 have hnt:=hin.nt
 have G6:=hin.op.ll
 have G7:=hin.op.lm
 have G8:=hin.op.ls
 have hia:=hin.op.ia
 simp only at G6 G7 G8 hia
 unfold maxLen at hl2 hm2 hd2
 have fJ:Hid (Parts (aj w.heap.size (opC ⟨3,a,c,s,bb,.slice la L.length lc,.slice ma M.length mc,.slice da Dd.length dc,L,M,Dd⟩).toArray dF :: (X++au D)) (w.alloc (.cells (opC ⟨3,a,c,s,bb,.slice la L.length lc,.slice ma M.length mc,.slice da Dd.length dc,L,M,Dd⟩).toArray dF))):=hin.parts.blk _ _
 clear hin
 unfold pv opC at *
 go_enter Tryz.func32,Tryz.ntmps32
 go_upto_region 1 with(fail)
 generalize w.heap.size=ob at *
 generalize w.alloc (.cells (List.toArray [.int .i64 3,.int .i64 a,.int .i64 c,.string s,.string bb,.slice la L.length lc,.slice ma M.length mc,.slice da Dd.length dc]) 67)=w1 at *
 have hob:aS w1 ob (List.toArray [.int .i64 3,.int .i64 a,.int .i64 c,.string s,.string bb,.slice la L.length lc,.slice ma M.length mc,.slice da Dd.length dc]) dF:=fJ.out.head
 have qU:=hob.cell 0
 have op1:=hob.cell 1
 simp only[List.getElem?_toArray,List.getElem?_cons_zero,List.getElem?_cons_succ] at qU op1
 clear hob
 have hbd:=dR (X:=aj ob _ dF :: X) fJ.out
 have hss:=uy (X:=aj ob _ dF :: X) fJ.out
 obtain⟨sa,sc,hsv,hs1,hs2⟩:=hss.shape
 unfold maxLen at hs2
 have c0:w1.cell? ⟨D.b,0,none⟩=some (.slice sa D.ps.length sc):=by rw[←hsv];exact hbd.cell 0
 rw[hsv] at hss
 have rD:=Lib.hid hss
 have zu:=Lib.hid hsv
 clear hsv hss hbd
 by_cases hz:D.ps.length=0
 ·rw[hz] at c0
  have BZ:=fJ
  go_wp2_with fail
  go_ret
  exact⟨rfl,D,LD.Next.refl D,BZ.out.tail⟩
 ·obtain⟨kk,hkk,oN⟩:=jX a (D.ps.length:Int) (by omega)
  have jY:kk<D.ps.length:=by omega
  obtain⟨p,hp⟩:∃p,D.ps[kk]? =some p:=⟨_,List.getElem?_eq_getElem jY⟩
  have vF:Hid (∀wx,Calls Tryz.prog 60 #[.int .i64 a,.int .i64 D.ps.length] wx fun e w'=>e=.returned (.int .i64 kk)∧wx=w'):=fun wx=>by
   have:=pick_any a (D.ps.length:Int) wx hia.1 hia.2 (by omega) (by omega)
   rw[hkk] at this
   exact this
  have lY:Hid (p∈D.ps):=List.mem_of_getElem? hp
  obtain⟨b',o',c',hsh,-,-,-,kZ,hcc,-⟩:=rD.out.pos (by omega)
  obtain⟨rfl,rfl⟩:sa=some ⟨b',o',none⟩∧sc=c':=by cases hsh;exact⟨rfl,rfl⟩
  clear hsh
  have hat:=jW D.ps kk p hp
  have s0:w1.cell? ⟨b',o'+kk*2,none⟩=some (pv p.x):=(hcc _ (by omega)).trans hat.1
  have s1:w1.cell? ⟨b',o'+kk*2+1,none⟩=some (pv p.r):=by rw[Nat.add_assoc];exact(hcc _ (by omega)).trans hat.2
  obtain⟨px,st,r,F,G,E⟩:=p
  unfold pv at s0 s1
  simp only at s0 s1
  have q2:(0:Int)≤(kk:Int):=by omega
  have q3:(kk:Int)<(D.ps.length:Int):=by omega
  clear hcc hat hp hkk oN
  go_upto_region 10 with(fail)
  have iD:Hid (∀wx,Keeps Non w1 wx→wx.cell? ⟨D.b,0,none⟩=some (.slice (some ⟨b',o',none⟩) D.ps.length sc)∧wx.cell? ⟨ob,1,none⟩=some (.int .i64 a)∧wx.cell? ⟨b',o'+kk*2,none⟩=some (.pointer (some ⟨px,0,none⟩))∧wx.cell? ⟨b',o'+kk*2+1,none⟩=some (.pointer (some ⟨r,0,none⟩))):=fun wx hk=>by
   have hbl:=hk.below (Nat.le_refl _) (fun _ _ h=>h)
   have h1:=(dR (X:=aj ob _ dF :: X) fJ.out).keeps hk fun h=>h
   have h2:aS wx ob (List.toArray [.int .i64 3,.int .i64 a,.int .i64 c,.string s,.string bb,.slice la L.length lc,.slice ma M.length mc,.slice da Dd.length dc]) dF:=(show aS w1 ob _ dF from fJ.out.head).keeps hk fun h=>h
   refine⟨?_,h2.cell 1,(hbl.cell (p:=⟨b',o'+kk*2,none⟩) kZ).trans s0,(hbl.cell (p:=⟨b',o'+kk*2+1,none⟩) kZ).trans s1⟩
   rw[←zu.out]
   exact h1.cell 0
  have q4:IntKind.i64.wrap (kk:Int)=(kk:Int):=IntWalk.i64_in _ (by omega)
  have hc:Keeps Non w1 w1:=Keeps.refl _ _
  go_cut [6] (fun v6 wx=>∃pb,v6=.pointer (some ⟨pb,0,none⟩)∧Hid (Parts (aj pb #[.pointer (some ⟨px,0,none⟩),.pointer (some ⟨r,0,none⟩)] ji :: aj ob (List.toArray [.int .i64 3,.int .i64 a,.int .i64 c,.string s,.string bb,.slice la L.length lc,.slice ma M.length mc,.slice da Dd.length dc]) dF :: (X++au D)) wx))
  case first=>
   go_region_held3 (fun w'=>w'.cell? ⟨D.b,0,none⟩=some (.slice (some ⟨b',o',none⟩) D.ps.length sc)∧w'.cell? ⟨ob,1,none⟩=some (.int .i64 a)∧w'.cell? ⟨b',o'+kk*2,none⟩=some (.pointer (some ⟨px,0,none⟩))∧w'.cell? ⟨b',o'+kk*2+1,none⟩=some (.pointer (some ⟨r,0,none⟩))) (first|exact⟨c0,op1,s0,s1⟩|exact iD.out _ hc|exact iD.out _ hc.drew|exact iD.out _ (hc.alloc _)|exact iD.out _ (hc.drew.alloc _)) (first
    |(go_at_call 60
      refine(vF.out _).mono ?_
      rintro e w2 ⟨rfl,rfl⟩))
   all_goals (
    go_wp2_with fail
    go_meet
    first
     |exact⟨_,rfl,fJ.out.blk _ _⟩
     |exact⟨_,rfl,(fJ.out.blk _ _).non (Keeps.refl _ _).drew⟩
     |exact⟨_,rfl,(fJ.out.non (Keeps.refl _ _).drew).blk _ _⟩
     |exact⟨_,rfl,((fJ.out.non (Keeps.refl _ _).drew).blk _ _).non (Keeps.refl _ _).drew⟩
     |exact⟨_,rfl,(fJ.out.blk _ _).non ((Keeps.refl _ _).drewN _)⟩
     |exact⟨_,rfl,((fJ.out.non ((Keeps.refl _ _).drewN _)).blk _ _).non ((Keeps.refl _ _).drewN _)⟩)
  case rest=>
   obtain⟨pb,hsh,HP⟩:=hcut
   subst hsh
   clear s0 s1 c0 qU op1 rD zu vF fJ iD hc
   generalize wc=w2 at *
   have hob:aS w2 ob (List.toArray [.int .i64 3,.int .i64 a,.int .i64 c,.string s,.string bb,.slice la L.length lc,.slice ma M.length mc,.slice da Dd.length dc]) dF:=HP.out.all (aj ob _ dF) (by simp)
   have hpb:aS w2 pb #[.pointer (some ⟨px,0,none⟩),.pointer (some ⟨r,0,none⟩)] ji:=HP.out.head
   have hpr:=lX (X:=aj pb _ ji :: aj ob _ dF :: X) HP.out lY.out
   have sF:=Lib.hid hpr
   have qU:=hob.cell 0
   have Cj:=hob.cell 3
   have FX:=hob.cell 5
   have Ac:=hob.cell 6
   have p0:=hpb.cell 0
   have p1:=hpb.cell 1
   have x0:=hpr.box.cell 0
   unfold pv at x0
   simp only[List.getElem?_toArray,List.getElem?_cons_zero,List.getElem?_cons_succ] at qU Cj FX Ac p0 p1 x0
   clear hob hpb hpr
   have hsv:sv s.data.toList=.string s:=by simp[sv]
   have HG:=Lib.hid (Vz (aj pb #[.pointer (some ⟨px,0,none⟩),.pointer (some ⟨r,0,none⟩)] ji :: aj ob (List.toArray [.int .i64 3,.int .i64 a,.int .i64 c,.string s,.string bb,.slice la L.length lc,.slice ma M.length mc,.slice da Dd.length dc]) dF :: X) D w2 _ lY.out s.data.toList HP.out (by rw[dlen];omega) hnl hnt)
   rw[hsv] at HG
   clear hsv
   go_wp2_with fail
   refine HG.out.mono ?_
   rintro e w3 ⟨rfl,D',hn,hp3⟩
   have lQ:=Lib.hid hp3
   have HN:=Lib.hid hn
   clear hp3 hn
   go_wp2_with fail
   go_ret
   exact⟨rfl,D',HN.out,lQ.out.tail.tail⟩
theorem OT{X:List Part}{D:LD}{w W0:World}{o:xK}(hin:qR X D w W0 o)(hkind:o.kind=4):
 Calls Tryz.prog 32 #[pv D.b,.agg (opC o).toArray] w (iW X D):=by
 obtain⟨kind,a,c,s,bb,vl,vm,vd,L,M,Dd⟩:=o
 simp only at hkind
 subst hkind
 obtain⟨la,lc,hsl,hl1,hl2⟩:=hin.op.rl.shape
 obtain⟨ma,mc,hsm,hm1,hm2⟩:=hin.op.rm.shape
 obtain⟨da,dc,hsd,hd1,hd2⟩:=hin.op.rd.shape
 simp only at hsl hsm hsd hl1 hm1 hd1
 subst hsl hsm hsd
 have oG:=Lib.hid hin
 have hnp:=hin.np
 have hnl:=hin.nl
 have hnt:=hin.nt
 have G6:=hin.op.ll
 have G7:=hin.op.lm
 have G8:=hin.op.ls
 have hia:=hin.op.ia
 simp only at G6 G7 G8 hia
 unfold maxLen at hl2 hm2 hd2
 have fJ:Hid (Parts (aj w.heap.size (opC ⟨4,a,c,s,bb,.slice la L.length lc,.slice ma M.length mc,.slice da Dd.length dc,L,M,Dd⟩).toArray dF :: (X++au D)) (w.alloc (.cells (opC ⟨4,a,c,s,bb,.slice la L.length lc,.slice ma M.length mc,.slice da Dd.length dc,L,M,Dd⟩).toArray dF))):=hin.parts.blk _ _
 clear hin
 unfold pv opC at *
 go_enter Tryz.func32,Tryz.ntmps32
 go_upto_region 1 with(fail)
 generalize w.heap.size=ob at *
 generalize w.alloc (.cells (List.toArray [.int .i64 4,.int .i64 a,.int .i64 c,.string s,.string bb,.slice la L.length lc,.slice ma M.length mc,.slice da Dd.length dc]) 67)=w1 at *
 have hob:aS w1 ob (List.toArray [.int .i64 4,.int .i64 a,.int .i64 c,.string s,.string bb,.slice la L.length lc,.slice ma M.length mc,.slice da Dd.length dc]) dF:=fJ.out.head
 have qU:=hob.cell 0
 have op1:=hob.cell 1
 simp only[List.getElem?_toArray,List.getElem?_cons_zero,List.getElem?_cons_succ] at qU op1
 clear hob
 have hbd:=dR (X:=aj ob _ dF :: X) fJ.out
 have hss:=uy (X:=aj ob _ dF :: X) fJ.out
 obtain⟨sa,sc,hsv,hs1,hs2⟩:=hss.shape
 unfold maxLen at hs2
 have c0:w1.cell? ⟨D.b,0,none⟩=some (.slice sa D.ps.length sc):=by rw[←hsv];exact hbd.cell 0
 rw[hsv] at hss
 have rD:=Lib.hid hss
 have zu:=Lib.hid hsv
 clear hsv hss hbd
 by_cases hz:D.ps.length=0
 ·rw[hz] at c0
  have BZ:=fJ
  go_wp2_with fail
  go_ret
  exact⟨rfl,D,LD.Next.refl D,BZ.out.tail⟩
 ·obtain⟨kk,hkk,oN⟩:=jX a (D.ps.length:Int) (by omega)
  have jY:kk<D.ps.length:=by omega
  obtain⟨p,hp⟩:∃p,D.ps[kk]? =some p:=⟨_,List.getElem?_eq_getElem jY⟩
  have vF:Hid (∀wx,Calls Tryz.prog 60 #[.int .i64 a,.int .i64 D.ps.length] wx fun e w'=>e=.returned (.int .i64 kk)∧wx=w'):=fun wx=>by
   have:=pick_any a (D.ps.length:Int) wx hia.1 hia.2 (by omega) (by omega)
   rw[hkk] at this
   exact this
  have lY:Hid (p∈D.ps):=List.mem_of_getElem? hp
  obtain⟨b',o',c',hsh,-,-,-,kZ,hcc,-⟩:=rD.out.pos (by omega)
  obtain⟨rfl,rfl⟩:sa=some ⟨b',o',none⟩∧sc=c':=by cases hsh;exact⟨rfl,rfl⟩
  clear hsh
  have hat:=jW D.ps kk p hp
  have s0:w1.cell? ⟨b',o'+kk*2,none⟩=some (pv p.x):=(hcc _ (by omega)).trans hat.1
  have s1:w1.cell? ⟨b',o'+kk*2+1,none⟩=some (pv p.r):=by rw[Nat.add_assoc];exact(hcc _ (by omega)).trans hat.2
  obtain⟨px,st,r,F,G,E⟩:=p
  unfold pv at s0 s1
  simp only at s0 s1
  have q2:(0:Int)≤(kk:Int):=by omega
  have q3:(kk:Int)<(D.ps.length:Int):=by omega
  clear hcc hat hp hkk oN
  go_upto_region 10 with(fail)
  have iD:Hid (∀wx,Keeps Non w1 wx→wx.cell? ⟨D.b,0,none⟩=some (.slice (some ⟨b',o',none⟩) D.ps.length sc)∧wx.cell? ⟨ob,1,none⟩=some (.int .i64 a)∧wx.cell? ⟨b',o'+kk*2,none⟩=some (.pointer (some ⟨px,0,none⟩))∧wx.cell? ⟨b',o'+kk*2+1,none⟩=some (.pointer (some ⟨r,0,none⟩))):=fun wx hk=>by
   have hbl:=hk.below (Nat.le_refl _) (fun _ _ h=>h)
   have h1:=(dR (X:=aj ob _ dF :: X) fJ.out).keeps hk fun h=>h
   have h2:aS wx ob (List.toArray [.int .i64 4,.int .i64 a,.int .i64 c,.string s,.string bb,.slice la L.length lc,.slice ma M.length mc,.slice da Dd.length dc]) dF:=(show aS w1 ob _ dF from fJ.out.head).keeps hk fun h=>h
   refine⟨?_,h2.cell 1,(hbl.cell (p:=⟨b',o'+kk*2,none⟩) kZ).trans s0,(hbl.cell (p:=⟨b',o'+kk*2+1,none⟩) kZ).trans s1⟩
   rw[←zu.out]
   exact h1.cell 0
  have q4:IntKind.i64.wrap (kk:Int)=(kk:Int):=IntWalk.i64_in _ (by omega)
  have hc:Keeps Non w1 w1:=Keeps.refl _ _
  go_cut [6] (fun v6 wx=>∃pb,v6=.pointer (some ⟨pb,0,none⟩)∧Hid (Parts (aj pb #[.pointer (some ⟨px,0,none⟩),.pointer (some ⟨r,0,none⟩)] ji :: aj ob (List.toArray [.int .i64 4,.int .i64 a,.int .i64 c,.string s,.string bb,.slice la L.length lc,.slice ma M.length mc,.slice da Dd.length dc]) dF :: (X++au D)) wx))
  case first=>
   go_region_held3 (fun w'=>w'.cell? ⟨D.b,0,none⟩=some (.slice (some ⟨b',o',none⟩) D.ps.length sc)∧w'.cell? ⟨ob,1,none⟩=some (.int .i64 a)∧w'.cell? ⟨b',o'+kk*2,none⟩=some (.pointer (some ⟨px,0,none⟩))∧w'.cell? ⟨b',o'+kk*2+1,none⟩=some (.pointer (some ⟨r,0,none⟩))) (first|exact⟨c0,op1,s0,s1⟩|exact iD.out _ hc|exact iD.out _ hc.drew|exact iD.out _ (hc.alloc _)|exact iD.out _ (hc.drew.alloc _)) (first
    |(go_at_call 60
      refine(vF.out _).mono ?_
      rintro e w2 ⟨rfl,rfl⟩))
   all_goals (
    go_wp2_with fail
    go_meet
    first
     |exact⟨_,rfl,fJ.out.blk _ _⟩
     |exact⟨_,rfl,(fJ.out.blk _ _).non (Keeps.refl _ _).drew⟩
     |exact⟨_,rfl,(fJ.out.non (Keeps.refl _ _).drew).blk _ _⟩
     |exact⟨_,rfl,((fJ.out.non (Keeps.refl _ _).drew).blk _ _).non (Keeps.refl _ _).drew⟩
     |exact⟨_,rfl,(fJ.out.blk _ _).non ((Keeps.refl _ _).drewN _)⟩
     |exact⟨_,rfl,((fJ.out.non ((Keeps.refl _ _).drewN _)).blk _ _).non ((Keeps.refl _ _).drewN _)⟩)
  case rest=>
   obtain⟨pb,hsh,HP⟩:=hcut
   subst hsh
   clear s0 s1 c0 qU op1 rD zu vF fJ iD hc
   generalize wc=w2 at *
   have hob:aS w2 ob (List.toArray [.int .i64 4,.int .i64 a,.int .i64 c,.string s,.string bb,.slice la L.length lc,.slice ma M.length mc,.slice da Dd.length dc]) dF:=HP.out.all (aj ob _ dF) (by simp)
   have hpb:aS w2 pb #[.pointer (some ⟨px,0,none⟩),.pointer (some ⟨r,0,none⟩)] ji:=HP.out.head
   have hpr:=lX (X:=aj pb _ ji :: aj ob _ dF :: X) HP.out lY.out
   have sF:=Lib.hid hpr
   have qU:=hob.cell 0
   have Cj:=hob.cell 3
   have FX:=hob.cell 5
   have Ac:=hob.cell 6
   have p0:=hpb.cell 0
   have p1:=hpb.cell 1
   have x0:=hpr.box.cell 0
   unfold pv at x0
   simp only[List.getElem?_toArray,List.getElem?_cons_zero,List.getElem?_cons_succ] at qU Cj FX Ac p0 p1 x0
   clear hob hpb hpr
   have adB:=(sF.out.st).ok.ten
   simp only at adB
   go_wp2_with fail
   refine(Rx w2 sF.out.st).mono ?_
   rintro e w3 ⟨v3,rfl,hs3,hk3⟩
   obtain⟨a3,c3,rfl,-,-⟩:=hs3.shape
   have lQ:=Lib.hid (HP.out.put hk3 hs3)
   have hpr:=sF.out.qt.non hk3
   have YV:=Lib.hid hpr
   have CJ:=Lib.hid hs3
   have hpb:aS w3 pb #[.pointer (some ⟨px,0,none⟩),.pointer (some ⟨r,0,none⟩)] ji:=lQ.out.tail.head
   have t1:=hpb.cell 1
   simp only[List.getElem?_toArray,List.getElem?_cons_zero,List.getElem?_cons_succ] at t1
   clear hpb hpr hs3 hk3 p0 p1 x0 qU Cj FX Ac HP
   go_wp2_with fail
   refine(OG w3 YV.out adB).mono ?_
   rintro e w4 ⟨v4,rfl,hs4,hk4⟩
   have HR4:=Lib.hid hs4.rd
   have zZ:=Lib.hid (lQ.out.non hk4)
   have HR3:=Lib.hid ((CJ.out.non hk4).rd)
   clear hs4 hk4 t1 lQ CJ YV
   go_wp2_with fail
   refine(wW (E.map dI.path) (E.map dI.path) _ _ w4 (by rw[List.length_map];exact HR3.out) (by rw[List.length_map];exact HR4.out)).mono ?_
   rintro e w5 ⟨rfl,nd,rfl⟩
   have NM:=Lib.hid (zZ.out.non ((Keeps.refl _ _).drewN nd))
   have heq:(E.map dI.path==E.map dI.path)=true:=beq_self_eq_true _
   rw[heq]
   clear heq zZ HR3 HR4
   go_wp2_with fail
   refine(sV (aj pb #[.pointer (some ⟨px,0,none⟩),.pointer (some ⟨r,0,none⟩)] ji :: aj ob (List.toArray [.int .i64 4,.int .i64 a,.int .i64 c,.string s,.string bb,.slice la L.length lc,.slice ma M.length mc,.slice da Dd.length dc]) dF :: X) D _ _ _ _ NM.out (by omega) hnl).mono ?_
   rintro e w6 ⟨rfl,vls',v',D6⟩
   have Gl:=Lib.hid D6
   clear D6
   go_wp2_with fail
   go_ret
   exact⟨rfl,_,LD.DW D _ _ _,Gl.out.tail.tail⟩
theorem RY{X:List Part}{D:LD}{w W0:World}{o:xK}(hin:qR X D w W0 o)(hkind:o.kind=5):
 Calls Tryz.prog 32 #[pv D.b,.agg (opC o).toArray] w (iW X D):=by
 obtain⟨kind,a,c,s,bb,vl,vm,vd,L,M,Dd⟩:=o
 simp only at hkind
 subst hkind
 obtain⟨la,lc,hsl,hl1,hl2⟩:=hin.op.rl.shape
 obtain⟨ma,mc,hsm,hm1,hm2⟩:=hin.op.rm.shape
 obtain⟨da,dc,hsd,hd1,hd2⟩:=hin.op.rd.shape
 simp only at hsl hsm hsd hl1 hm1 hd1
 subst hsl hsm hsd
 have oG:=Lib.hid hin
 have hnp:=hin.np
 have hnl:=hin.nl
 have hnt:=hin.nt
 have G6:=hin.op.ll
 have G7:=hin.op.lm
 have G8:=hin.op.ls
 have hia:=hin.op.ia
 simp only at G6 G7 G8 hia
 unfold maxLen at hl2 hm2 hd2
 have fJ:Hid (Parts (aj w.heap.size (opC ⟨5,a,c,s,bb,.slice la L.length lc,.slice ma M.length mc,.slice da Dd.length dc,L,M,Dd⟩).toArray dF :: (X++au D)) (w.alloc (.cells (opC ⟨5,a,c,s,bb,.slice la L.length lc,.slice ma M.length mc,.slice da Dd.length dc,L,M,Dd⟩).toArray dF))):=hin.parts.blk _ _
 clear hin
 unfold pv opC at *
 go_enter Tryz.func32,Tryz.ntmps32
 go_upto_region 1 with(fail)
 generalize w.heap.size=ob at *
 generalize w.alloc (.cells (List.toArray [.int .i64 5,.int .i64 a,.int .i64 c,.string s,.string bb,.slice la L.length lc,.slice ma M.length mc,.slice da Dd.length dc]) 67)=w1 at *
 have hob:aS w1 ob (List.toArray [.int .i64 5,.int .i64 a,.int .i64 c,.string s,.string bb,.slice la L.length lc,.slice ma M.length mc,.slice da Dd.length dc]) dF:=fJ.out.head
 have qU:=hob.cell 0
 have op1:=hob.cell 1
 simp only[List.getElem?_toArray,List.getElem?_cons_zero,List.getElem?_cons_succ] at qU op1
 clear hob
 have hbd:=dR (X:=aj ob _ dF :: X) fJ.out
 have hss:=uy (X:=aj ob _ dF :: X) fJ.out
 obtain⟨sa,sc,hsv,hs1,hs2⟩:=hss.shape
 unfold maxLen at hs2
 have c0:w1.cell? ⟨D.b,0,none⟩=some (.slice sa D.ps.length sc):=by rw[←hsv];exact hbd.cell 0
 rw[hsv] at hss
 have rD:=Lib.hid hss
 have zu:=Lib.hid hsv
 clear hsv hss hbd
 by_cases hz:D.ps.length=0
 ·rw[hz] at c0
  have BZ:=fJ
  go_wp2_with fail
  go_ret
  exact⟨rfl,D,LD.Next.refl D,BZ.out.tail⟩
 ·obtain⟨kk,hkk,oN⟩:=jX a (D.ps.length:Int) (by omega)
  have jY:kk<D.ps.length:=by omega
  obtain⟨p,hp⟩:∃p,D.ps[kk]? =some p:=⟨_,List.getElem?_eq_getElem jY⟩
  have vF:Hid (∀wx,Calls Tryz.prog 60 #[.int .i64 a,.int .i64 D.ps.length] wx fun e w'=>e=.returned (.int .i64 kk)∧wx=w'):=fun wx=>by
   have:=pick_any a (D.ps.length:Int) wx hia.1 hia.2 (by omega) (by omega)
   rw[hkk] at this
   exact this
  have lY:Hid (p∈D.ps):=List.mem_of_getElem? hp
  obtain⟨b',o',c',hsh,-,-,-,kZ,hcc,-⟩:=rD.out.pos (by omega)
  obtain⟨rfl,rfl⟩:sa=some ⟨b',o',none⟩∧sc=c':=by cases hsh;exact⟨rfl,rfl⟩
  clear hsh
  have hat:=jW D.ps kk p hp
  have s0:w1.cell? ⟨b',o'+kk*2,none⟩=some (pv p.x):=(hcc _ (by omega)).trans hat.1
  have s1:w1.cell? ⟨b',o'+kk*2+1,none⟩=some (pv p.r):=by rw[Nat.add_assoc];exact(hcc _ (by omega)).trans hat.2
  obtain⟨px,st,r,F,G,E⟩:=p
  unfold pv at s0 s1
  simp only at s0 s1
  have q2:(0:Int)≤(kk:Int):=by omega
  have q3:(kk:Int)<(D.ps.length:Int):=by omega
  clear hcc hat hp hkk oN
  go_upto_region 10 with(fail)
  have iD:Hid (∀wx,Keeps Non w1 wx→wx.cell? ⟨D.b,0,none⟩=some (.slice (some ⟨b',o',none⟩) D.ps.length sc)∧wx.cell? ⟨ob,1,none⟩=some (.int .i64 a)∧wx.cell? ⟨b',o'+kk*2,none⟩=some (.pointer (some ⟨px,0,none⟩))∧wx.cell? ⟨b',o'+kk*2+1,none⟩=some (.pointer (some ⟨r,0,none⟩))):=fun wx hk=>by
   have hbl:=hk.below (Nat.le_refl _) (fun _ _ h=>h)
   have h1:=(dR (X:=aj ob _ dF :: X) fJ.out).keeps hk fun h=>h
   have h2:aS wx ob (List.toArray [.int .i64 5,.int .i64 a,.int .i64 c,.string s,.string bb,.slice la L.length lc,.slice ma M.length mc,.slice da Dd.length dc]) dF:=(show aS w1 ob _ dF from fJ.out.head).keeps hk fun h=>h
   refine⟨?_,h2.cell 1,(hbl.cell (p:=⟨b',o'+kk*2,none⟩) kZ).trans s0,(hbl.cell (p:=⟨b',o'+kk*2+1,none⟩) kZ).trans s1⟩
   rw[←zu.out]
   exact h1.cell 0
  have q4:IntKind.i64.wrap (kk:Int)=(kk:Int):=IntWalk.i64_in _ (by omega)
  have hc:Keeps Non w1 w1:=Keeps.refl _ _
  go_cut [6] (fun v6 wx=>∃pb,v6=.pointer (some ⟨pb,0,none⟩)∧Hid (Parts (aj pb #[.pointer (some ⟨px,0,none⟩),.pointer (some ⟨r,0,none⟩)] ji :: aj ob (List.toArray [.int .i64 5,.int .i64 a,.int .i64 c,.string s,.string bb,.slice la L.length lc,.slice ma M.length mc,.slice da Dd.length dc]) dF :: (X++au D)) wx))
  case first=>
   go_region_held3 (fun w'=>w'.cell? ⟨D.b,0,none⟩=some (.slice (some ⟨b',o',none⟩) D.ps.length sc)∧w'.cell? ⟨ob,1,none⟩=some (.int .i64 a)∧w'.cell? ⟨b',o'+kk*2,none⟩=some (.pointer (some ⟨px,0,none⟩))∧w'.cell? ⟨b',o'+kk*2+1,none⟩=some (.pointer (some ⟨r,0,none⟩))) (first|exact⟨c0,op1,s0,s1⟩|exact iD.out _ hc|exact iD.out _ hc.drew|exact iD.out _ (hc.alloc _)|exact iD.out _ (hc.drew.alloc _)) (first
    |(go_at_call 60
      refine(vF.out _).mono ?_
      rintro e w2 ⟨rfl,rfl⟩))
   all_goals (
    go_wp2_with fail
    go_meet
    first
     |exact⟨_,rfl,fJ.out.blk _ _⟩
     |exact⟨_,rfl,(fJ.out.blk _ _).non (Keeps.refl _ _).drew⟩
     |exact⟨_,rfl,(fJ.out.non (Keeps.refl _ _).drew).blk _ _⟩
     |exact⟨_,rfl,((fJ.out.non (Keeps.refl _ _).drew).blk _ _).non (Keeps.refl _ _).drew⟩
     |exact⟨_,rfl,(fJ.out.blk _ _).non ((Keeps.refl _ _).drewN _)⟩
     |exact⟨_,rfl,((fJ.out.non ((Keeps.refl _ _).drewN _)).blk _ _).non ((Keeps.refl _ _).drewN _)⟩)
  case rest=>
   obtain⟨pb,hsh,HP⟩:=hcut
   subst hsh
   clear s0 s1 c0 qU op1 rD zu vF fJ iD hc
   generalize wc=w2 at *
   have hob:aS w2 ob (List.toArray [.int .i64 5,.int .i64 a,.int .i64 c,.string s,.string bb,.slice la L.length lc,.slice ma M.length mc,.slice da Dd.length dc]) dF:=HP.out.all (aj ob _ dF) (by simp)
   have hpb:aS w2 pb #[.pointer (some ⟨px,0,none⟩),.pointer (some ⟨r,0,none⟩)] ji:=HP.out.head
   have hpr:=lX (X:=aj pb _ ji :: aj ob _ dF :: X) HP.out lY.out
   have sF:=Lib.hid hpr
   have qU:=hob.cell 0
   have Cj:=hob.cell 3
   have FX:=hob.cell 5
   have Ac:=hob.cell 6
   have p0:=hpb.cell 0
   have p1:=hpb.cell 1
   have x0:=hpr.box.cell 0
   unfold pv at x0
   simp only[List.getElem?_toArray,List.getElem?_cons_zero,List.getElem?_cons_succ] at qU Cj FX Ac p0 p1 x0
   clear hob hpb hpr
   have QO:Hid (∀wx,Keeps Non w2 wx→aU wx F st E):=fun wx hk=>sF.out.st.non hk
   have NR:Hid (∀wx,Keeps Non w2 wx→Rd wx 1 (.slice ma M.length mc) M.length (bf M)):=fun wx hk=>((oG.out.op.low (kS (X:=aj pb _ ji :: aj ob _ dF :: X) HP.out (List.mem_cons_of_mem _ (List.mem_cons_of_mem _ oG.out.low)))).rm).non hk
   have UO:Hid (∀r∈M,r.length≤1099511627776):=fun r hr=>by have:=oG.out.op.nm r hr;omega
   have CU:Hid (∀wx,Keeps Non w2 wx→Calls Tryz.prog 18 #[.pointer (some ⟨st,0,none⟩),.slice ma M.length mc] wx (Eb wx E M)):=fun wx hk=>BI wx (QO.out wx hk) M _ (NR.out wx hk) (by omega) UO.out
   have iD:Hid (∀wx,Keeps Non w2 wx→wx.cell? ⟨pb,0,none⟩=some (.pointer (some ⟨px,0,none⟩))∧wx.cell? ⟨px,0,none⟩=some (.pointer (some ⟨st,0,none⟩))∧wx.cell? ⟨ob,6,none⟩=some (.slice ma M.length mc)):=fun wx hk=>by
    have h:=HP.out.non hk
    have hob:aS wx ob (List.toArray [.int .i64 5,.int .i64 a,.int .i64 c,.string s,.string bb,.slice la L.length lc,.slice ma M.length mc,.slice da Dd.length dc]) dF:=h.all (aj ob _ dF) (by simp)
    have hpb:aS wx pb #[.pointer (some ⟨px,0,none⟩),.pointer (some ⟨r,0,none⟩)] ji:=h.head
    have hpr:=lX (X:=aj pb _ ji :: aj ob _ dF :: X) h lY.out
    exact⟨hpb.cell 0,hpr.box.cell 0,hob.cell 6⟩
   have hc:Keeps Non w2 w2:=Keeps.refl _ _
   go_upto_region 28 with(fail)
   go_cut [13,14] (fun v ev wx=>∃(ca:Option Addr) (cn:Nat) (T:List (List UInt8)) (er:Int),v=.slice ca T.length cn∧ev=.int .i64 er∧Hid (Keeps Non w2 wx)∧Hid (Sl wx w2.heap.size 9 1 (.slice ca T.length cn) T.length (bf T))∧
    Hid (((∃r∈M,aA E r=none)∧er=15∧T=[])∨((∀r∈M,(aA E r).isSome=true)∧∃K,rO E M K∧er=0∧T=jO E K)))
   case first=>
    go_region_held3 (fun w'=>w'.cell? ⟨pb,0,none⟩=some (.pointer (some ⟨px,0,none⟩))∧w'.cell? ⟨px,0,none⟩=some (.pointer (some ⟨st,0,none⟩))∧w'.cell? ⟨ob,6,none⟩=some (.slice ma M.length mc)) (first|exact⟨p0,x0,Ac⟩|exact iD.out _ hc|exact iD.out _ hc.drew) (first
     |(go_at_call 18
       refine(CU.out _ (by first|exact hc|exact hc.drew)).mono ?_
       rintro e w3 hp
       have hp2:=adx hp
       clear hp
       obtain⟨ca,cn,T,er,rfl,hs3,hk3,hcs⟩:=hp2
       replace hs3:Sl w3 w2.heap.size 9 1 (.slice ca T.length cn) T.length (bf T):=by first|exact hs3|exact hs3.mono hc.size
       replace hc:=Keeps.tn hc (by first|exact hk3|exact hk3.un)
       clear hk3
       obtain⟨p0,x0,Ac⟩:=iD.out _ hc))
    all_goals (
     go_wp2_with fail
     go_meet
     exact⟨ca,cn,T,er,rfl,rfl,by first|exact hc|exact hc.drew,by first|exact hs3|exact hs3.drewN 1,hcs⟩)
   case rest=>
    obtain⟨ca,cn,T,er,rfl,rfl,kL,CJ,X6⟩:=hcut
    generalize wc=w3 at *
    have hp3:Parts (aG iw 1 (.slice ca T.length cn) T.length (bf T) :: ((aj pb #[.pointer (some ⟨px,0,none⟩),.pointer (some ⟨r,0,none⟩)] ji :: aj ob (List.toArray [.int .i64 5,.int .i64 a,.int .i64 c,.string s,.string bb,.slice la L.length lc,.slice ma M.length mc,.slice da Dd.length dc]) dF :: X)++au D)) w3:=HP.out.put kL.out CJ.out
    have lQ:=Lib.hid hp3
    have hob:aS w3 ob (List.toArray [.int .i64 5,.int .i64 a,.int .i64 c,.string s,.string bb,.slice la L.length lc,.slice ma M.length mc,.slice da Dd.length dc]) dF:=hp3.all (aj ob _ dF) (by simp)
    have hpb:aS w3 pb #[.pointer (some ⟨px,0,none⟩),.pointer (some ⟨r,0,none⟩)] ji:=hp3.tail.head
    have t6:=hob.cell 6
    have t1:=hpb.cell 1
    simp only[List.getElem?_toArray,List.getElem?_cons_zero,List.getElem?_cons_succ] at t6 t1
    have D7:Hid (Calls Tryz.prog 67 #[.pointer (some ⟨r,0,none⟩),.slice ma M.length mc] w3 (He w3 E M)):=zq w3 (sF.out.qt.non kL.out) sF.out.st.ok sF.out.st.fit M _ (NR.out w3 kL.out) (by omega)
    have yM:Hid (T.length≤1099511627776):=by
     show _≤_
     rcases X6.out with⟨_,_,rfl⟩|⟨_,K,hK,_,rfl⟩
     ·simp
     ·have h1:=kN (uz E K)
      have:=sF.out.st.ok.ten
      simp only at this
      omega
    clear hp3 hob hpb p0 p1 x0 qU Cj FX Ac hc iD CU QO NR HP kL
    go_wp2_with fail
    refine D7.out.mono ?_
    rintro e w4 hq
    have HB:Hid (∃(da2:Option Addr) (dn:Nat),e=.returned (.tuple #[.slice da2 T.length dn,.int .i64 er])∧Rd w4 1 (.slice da2 T.length dn) T.length (bf T)∧Keeps Non w3 w4):=by
     show ∃_,_
     rcases X6.out with⟨⟨y,hy,hyn⟩,rfl,rfl⟩|⟨hall,K,hK,rfl,rfl⟩
     ·rcases hq with⟨-,rfl,hk⟩|⟨hall,-⟩
      ·exact⟨none,0,rfl,(Sl.nil w4 0 9 1).rd,hk⟩
      ·have:=hall y hy
       rw[hyn] at this
       cases this
     ·rcases hq with⟨⟨y,hy,hyn⟩,-⟩|⟨-,hq⟩
      ·have:=hall y hy
       rw[hyn] at this
       cases this
      ·obtain⟨v,rfl,hs,hk⟩:=hq K hK
       obtain⟨a1,c1,rfl,-,-⟩:=hs.shape
       exact⟨a1,c1,rfl,hs.rd,hk⟩
    obtain⟨da2,dn,rfl,hr4,hk4⟩:=HB.out
    have zZ:=Lib.hid (lQ.out.non hk4)
    have HR4:=Lib.hid hr4
    have HR3:Hid (Rd w4 1 (.slice ca T.length cn) T.length (bf T)):=(show Sl w4 0 iw 1 _ _ _ from zZ.out.head).rd
    have herr:((er:Int)==er)=true:=beq_self_eq_true _
    clear hq HB hr4 hk4 lQ D7 t6 t1 CJ X6
    go_wp2_with fail
    refine(wW T T _ _ w4 HR3.out HR4.out).mono ?_
    rintro e w5 ⟨rfl,nd,rfl⟩
    have NM:=Lib.hid (zZ.out.non ((Keeps.refl _ _).drewN nd))
    have heq:(T==T)=true:=beq_self_eq_true _
    rw[heq]
    clear heq zZ HR3 HR4
    go_wp2_with fail
    refine(sV (aj pb #[.pointer (some ⟨px,0,none⟩),.pointer (some ⟨r,0,none⟩)] ji :: aj ob (List.toArray [.int .i64 5,.int .i64 a,.int .i64 c,.string s,.string bb,.slice la L.length lc,.slice ma M.length mc,.slice da Dd.length dc]) dF :: X) D _ _ _ _ NM.out yM.out hnl).mono ?_
    rintro e w6 ⟨rfl,vls',v',D6⟩
    have Gl:=Lib.hid D6
    clear D6
    go_wp2_with fail
    go_ret
    exact⟨rfl,_,LD.DW D _ _ _,Gl.out.tail.tail⟩
theorem step_none{X:List Part}{D:LD}{w W0:World}{o:xK}(hin:qR X D w W0 o)(hkind:o.kind≤0):
 Calls Tryz.prog 32 #[pv D.b,.agg (opC o).toArray] w (iW X D):=by
 obtain⟨kind,a,c,s,bb,vl,vm,vd,L,M,Dd⟩:=o
 simp only at hkind
 have g1:(kind==1)=false:=by rw[beq_eq_false_iff_ne];omega
 have g2:(kind==2)=false:=by rw[beq_eq_false_iff_ne];omega
 have g3:(kind==3)=false:=by rw[beq_eq_false_iff_ne];omega
 have g4:(kind==4)=false:=by rw[beq_eq_false_iff_ne];omega
 have g5:(kind==5)=false:=by rw[beq_eq_false_iff_ne];omega
 have g6:(kind==6)=false:=by rw[beq_eq_false_iff_ne];omega
 have g7:(kind==7)=false:=by rw[beq_eq_false_iff_ne];omega
 obtain⟨la,lc,hsl,hl1,hl2⟩:=hin.op.rl.shape
 obtain⟨ma,mc,hsm,hm1,hm2⟩:=hin.op.rm.shape
 obtain⟨da,dc,hsd,hd1,hd2⟩:=hin.op.rd.shape
 simp only at hsl hsm hsd hl1 hm1 hd1
 subst hsl hsm hsd
 have oG:=Lib.hid hin
 have hnp:=hin.np
 have hnl:=hin.nl
 have hnt:=hin.nt
 have G6:=hin.op.ll
 have G7:=hin.op.lm
 have G8:=hin.op.ls
 have hia:=hin.op.ia
 simp only at G6 G7 G8 hia
 unfold maxLen at hl2 hm2 hd2
 have fJ:Hid (Parts (aj w.heap.size (opC ⟨kind,a,c,s,bb,.slice la L.length lc,.slice ma M.length mc,.slice da Dd.length dc,L,M,Dd⟩).toArray dF :: (X++au D)) (w.alloc (.cells (opC ⟨kind,a,c,s,bb,.slice la L.length lc,.slice ma M.length mc,.slice da Dd.length dc,L,M,Dd⟩).toArray dF))):=hin.parts.blk _ _
 clear hin
 unfold pv opC at *
 go_enter Tryz.func32,Tryz.ntmps32
 go_upto_region 1 with(fail)
 generalize w.heap.size=ob at *
 generalize w.alloc (.cells (List.toArray [.int .i64 kind,.int .i64 a,.int .i64 c,.string s,.string bb,.slice la L.length lc,.slice ma M.length mc,.slice da Dd.length dc]) 67)=w1 at *
 have hob:aS w1 ob (List.toArray [.int .i64 kind,.int .i64 a,.int .i64 c,.string s,.string bb,.slice la L.length lc,.slice ma M.length mc,.slice da Dd.length dc]) dF:=fJ.out.head
 have qU:=hob.cell 0
 have op1:=hob.cell 1
 simp only[List.getElem?_toArray,List.getElem?_cons_zero,List.getElem?_cons_succ] at qU op1
 clear hob
 have hbd:=dR (X:=aj ob _ dF :: X) fJ.out
 have hss:=uy (X:=aj ob _ dF :: X) fJ.out
 obtain⟨sa,sc,hsv,hs1,hs2⟩:=hss.shape
 unfold maxLen at hs2
 have c0:w1.cell? ⟨D.b,0,none⟩=some (.slice sa D.ps.length sc):=by rw[←hsv];exact hbd.cell 0
 rw[hsv] at hss
 have rD:=Lib.hid hss
 have zu:=Lib.hid hsv
 clear hsv hss hbd
 by_cases hz:D.ps.length=0
 ·rw[hz] at c0
  have BZ:=fJ
  go_wp2_with fail
  go_ret
  exact⟨rfl,D,LD.Next.refl D,BZ.out.tail⟩
 ·obtain⟨kk,hkk,oN⟩:=jX a (D.ps.length:Int) (by omega)
  have jY:kk<D.ps.length:=by omega
  obtain⟨p,hp⟩:∃p,D.ps[kk]? =some p:=⟨_,List.getElem?_eq_getElem jY⟩
  have vF:Hid (∀wx,Calls Tryz.prog 60 #[.int .i64 a,.int .i64 D.ps.length] wx fun e w'=>e=.returned (.int .i64 kk)∧wx=w'):=fun wx=>by
   have:=pick_any a (D.ps.length:Int) wx hia.1 hia.2 (by omega) (by omega)
   rw[hkk] at this
   exact this
  have lY:Hid (p∈D.ps):=List.mem_of_getElem? hp
  obtain⟨b',o',c',hsh,-,-,-,kZ,hcc,-⟩:=rD.out.pos (by omega)
  obtain⟨rfl,rfl⟩:sa=some ⟨b',o',none⟩∧sc=c':=by cases hsh;exact⟨rfl,rfl⟩
  clear hsh
  have hat:=jW D.ps kk p hp
  have s0:w1.cell? ⟨b',o'+kk*2,none⟩=some (pv p.x):=(hcc _ (by omega)).trans hat.1
  have s1:w1.cell? ⟨b',o'+kk*2+1,none⟩=some (pv p.r):=by rw[Nat.add_assoc];exact(hcc _ (by omega)).trans hat.2
  obtain⟨px,st,r,F,G,E⟩:=p
  unfold pv at s0 s1
  simp only at s0 s1
  have q2:(0:Int)≤(kk:Int):=by omega
  have q3:(kk:Int)<(D.ps.length:Int):=by omega
  clear hcc hat hp hkk oN
  go_upto_region 10 with(fail)
  have iD:Hid (∀wx,Keeps Non w1 wx→wx.cell? ⟨D.b,0,none⟩=some (.slice (some ⟨b',o',none⟩) D.ps.length sc)∧wx.cell? ⟨ob,1,none⟩=some (.int .i64 a)∧wx.cell? ⟨b',o'+kk*2,none⟩=some (.pointer (some ⟨px,0,none⟩))∧wx.cell? ⟨b',o'+kk*2+1,none⟩=some (.pointer (some ⟨r,0,none⟩))):=fun wx hk=>by
   have hbl:=hk.below (Nat.le_refl _) (fun _ _ h=>h)
   have h1:=(dR (X:=aj ob _ dF :: X) fJ.out).keeps hk fun h=>h
   have h2:aS wx ob (List.toArray [.int .i64 kind,.int .i64 a,.int .i64 c,.string s,.string bb,.slice la L.length lc,.slice ma M.length mc,.slice da Dd.length dc]) dF:=(show aS w1 ob _ dF from fJ.out.head).keeps hk fun h=>h
   refine⟨?_,h2.cell 1,(hbl.cell (p:=⟨b',o'+kk*2,none⟩) kZ).trans s0,(hbl.cell (p:=⟨b',o'+kk*2+1,none⟩) kZ).trans s1⟩
   rw[←zu.out]
   exact h1.cell 0
  have q4:IntKind.i64.wrap (kk:Int)=(kk:Int):=IntWalk.i64_in _ (by omega)
  have hc:Keeps Non w1 w1:=Keeps.refl _ _
  go_cut [6] (fun v6 wx=>∃pb,v6=.pointer (some ⟨pb,0,none⟩)∧Hid (Parts (aj pb #[.pointer (some ⟨px,0,none⟩),.pointer (some ⟨r,0,none⟩)] ji :: aj ob (List.toArray [.int .i64 kind,.int .i64 a,.int .i64 c,.string s,.string bb,.slice la L.length lc,.slice ma M.length mc,.slice da Dd.length dc]) dF :: (X++au D)) wx))
  case first=>
   go_region_held3 (fun w'=>w'.cell? ⟨D.b,0,none⟩=some (.slice (some ⟨b',o',none⟩) D.ps.length sc)∧w'.cell? ⟨ob,1,none⟩=some (.int .i64 a)∧w'.cell? ⟨b',o'+kk*2,none⟩=some (.pointer (some ⟨px,0,none⟩))∧w'.cell? ⟨b',o'+kk*2+1,none⟩=some (.pointer (some ⟨r,0,none⟩))) (first|exact⟨c0,op1,s0,s1⟩|exact iD.out _ hc|exact iD.out _ hc.drew|exact iD.out _ (hc.alloc _)|exact iD.out _ (hc.drew.alloc _)) (first
    |(go_at_call 60
      refine(vF.out _).mono ?_
      rintro e w2 ⟨rfl,rfl⟩))
   all_goals (
    go_wp2_with fail
    go_meet
    first
     |exact⟨_,rfl,fJ.out.blk _ _⟩
     |exact⟨_,rfl,(fJ.out.blk _ _).non (Keeps.refl _ _).drew⟩
     |exact⟨_,rfl,(fJ.out.non (Keeps.refl _ _).drew).blk _ _⟩
     |exact⟨_,rfl,((fJ.out.non (Keeps.refl _ _).drew).blk _ _).non (Keeps.refl _ _).drew⟩
     |exact⟨_,rfl,(fJ.out.blk _ _).non ((Keeps.refl _ _).drewN _)⟩
     |exact⟨_,rfl,((fJ.out.non ((Keeps.refl _ _).drewN _)).blk _ _).non ((Keeps.refl _ _).drewN _)⟩)
  case rest=>
   obtain⟨pb,hsh,HP⟩:=hcut
   subst hsh
   clear s0 s1 c0 qU op1 rD zu vF fJ iD hc
   generalize wc=w2 at *
   have hob:aS w2 ob (List.toArray [.int .i64 kind,.int .i64 a,.int .i64 c,.string s,.string bb,.slice la L.length lc,.slice ma M.length mc,.slice da Dd.length dc]) dF:=HP.out.all (aj ob _ dF) (by simp)
   have hpb:aS w2 pb #[.pointer (some ⟨px,0,none⟩),.pointer (some ⟨r,0,none⟩)] ji:=HP.out.head
   have hpr:=lX (X:=aj pb _ ji :: aj ob _ dF :: X) HP.out lY.out
   have sF:=Lib.hid hpr
   have qU:=hob.cell 0
   have Cj:=hob.cell 3
   have FX:=hob.cell 5
   have Ac:=hob.cell 6
   have p0:=hpb.cell 0
   have p1:=hpb.cell 1
   have x0:=hpr.box.cell 0
   unfold pv at x0
   simp only[List.getElem?_toArray,List.getElem?_cons_zero,List.getElem?_cons_succ] at qU Cj FX Ac p0 p1 x0
   clear hob hpb hpr
   clear oG
   go_wp2_with fail
   go_ret
   exact⟨rfl,D,LD.Next.refl D,HP.out.tail.tail⟩
theorem Lh{X:List Part}{D:LD}{w W0:World}{o:xK}(hin:qR X D w W0 o)(hk:o.kind≤5):
 Calls Tryz.prog 32 #[pv D.b,.agg (opC o).toArray] w (iW X D):=by
 rcases (by omega:o.kind≤0∨o.kind=1∨o.kind=2∨o.kind=3∨o.kind=4∨o.kind=5) with h|h|h|h|h|h
 ·exact step_none hin h
 ·exact VO hin h
 ·exact VQ hin h
 ·exact VT hin h
 ·exact OT hin h
 ·exact RY hin h
end Go.Proofs.YtdkogijdfgfpeaaGreatDoor
