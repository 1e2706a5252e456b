/- (*narlaw.World).step: Export and Import on both sides. (Printed by step.py.) -/
import Derived.Test.YtdkogijdfgfpeaaGreatDoorZStep
import Derived.Test.YtdkogijdfgfpeaaGreatDoorZExpW
import Derived.Test.YtdkogijdfgfpeaaGreatDoorZLImp
set_option linter.unusedVariables false
namespace Go.Proofs.YtdkogijdfgfpeaaGreatDoor
open Go Go.RowKit
set_option maxHeartbeats 6400000
set_option maxRecDepth 100000
theorem XT{X:List Part}{D:LD}{w:World}(h:Parts (X++au D) w):Sl w 0 iw 1 D.I8 D.bs.length (bf D.bs):=h.all (aG iw 1 D.I8 D.bs.length (bf D.bs)) (by simp[au,jy])
theorem XU{X:List Part}{D:LD}{w W0:World}{o:xK}(hin:qR X D w W0 o)(hkind:o.kind=6)(hnb:D.bs.length≤1000000):
 Calls Tryz.prog 32 #[pv D.b,.agg (opC o).toArray] w (iW X D):=by
 obtain⟨kind,a,c,s,bb,vl,vm,vd,L,M,Dd⟩:=o
 simp only at hkind
 subst hkind
 obtain⟨la,lc,hsl,hl1,hl2⟩:=hin.op.rl.shape
 obtain⟨ma,mc,hsm,hm1,hm2⟩:=hin.op.rm.shape
 obtain⟨da,dc,hsd,hd1,hd2⟩:=hin.op.rd.shape
 simp only at hsl hsm hsd hl1 hm1 hd1
 subst hsl hsm hsd
 have oG:=Lib.hid hin
 have hnp:=hin.np
 have hnl:=hin.nl
 have hnt:=hin.nt
 have G6:=hin.op.ll
 have G7:=hin.op.lm
 have G8:=hin.op.ls
 have hia:=hin.op.ia
 simp only at G6 G7 G8 hia
 unfold maxLen at hl2 hm2 hd2
 have fJ:Hid (Parts (aj w.heap.size (opC ⟨6,a,c,s,bb,.slice la L.length lc,.slice ma M.length mc,.slice da Dd.length dc,L,M,Dd⟩).toArray dF :: (X++au D)) (w.alloc (.cells (opC ⟨6,a,c,s,bb,.slice la L.length lc,.slice ma M.length mc,.slice da Dd.length dc,L,M,Dd⟩).toArray dF))):=hin.parts.blk _ _
 clear hin
 unfold pv opC at *
 go_enter Tryz.func32,Tryz.ntmps32
 go_upto_region 1 with(fail)
 generalize w.heap.size=ob at *
 generalize w.alloc (.cells (List.toArray [.int .i64 6,.int .i64 a,.int .i64 c,.string s,.string bb,.slice la L.length lc,.slice ma M.length mc,.slice da Dd.length dc]) 67)=w1 at *
 have hob:aS w1 ob (List.toArray [.int .i64 6,.int .i64 a,.int .i64 c,.string s,.string bb,.slice la L.length lc,.slice ma M.length mc,.slice da Dd.length dc]) dF:=fJ.out.head
 have qU:=hob.cell 0
 have op1:=hob.cell 1
 simp only[List.getElem?_toArray,List.getElem?_cons_zero,List.getElem?_cons_succ] at qU op1
 clear hob
 have hbd:=dR (X:=aj ob _ dF :: X) fJ.out
 have hss:=uy (X:=aj ob _ dF :: X) fJ.out
 obtain⟨sa,sc,hsv,hs1,hs2⟩:=hss.shape
 unfold maxLen at hs2
 have c0:w1.cell? ⟨D.b,0,none⟩=some (.slice sa D.ps.length sc):=by rw[←hsv];exact hbd.cell 0
 rw[hsv] at hss
 have rD:=Lib.hid hss
 have zu:=Lib.hid hsv
 clear hsv hss hbd
 by_cases hz:D.ps.length=0
 ·rw[hz] at c0
  have BZ:=fJ
  go_wp2_with fail
  go_ret
  exact⟨rfl,D,LD.Next.refl D,BZ.out.tail⟩
 ·obtain⟨kk,hkk,oN⟩:=jX a (D.ps.length:Int) (by omega)
  have jY:kk<D.ps.length:=by omega
  obtain⟨p,hp⟩:∃p,D.ps[kk]? =some p:=⟨_,List.getElem?_eq_getElem jY⟩
  have vF:Hid (∀wx,Calls Tryz.prog 60 #[.int .i64 a,.int .i64 D.ps.length] wx fun e w'=>e=.returned (.int .i64 kk)∧wx=w'):=fun wx=>by
   have:=pick_any a (D.ps.length:Int) wx hia.1 hia.2 (by omega) (by omega)
   rw[hkk] at this
   exact this
  have lY:Hid (p∈D.ps):=List.mem_of_getElem? hp
  obtain⟨b',o',c',hsh,-,-,-,kZ,hcc,-⟩:=rD.out.pos (by omega)
  obtain⟨rfl,rfl⟩:sa=some ⟨b',o',none⟩∧sc=c':=by cases hsh;exact⟨rfl,rfl⟩
  clear hsh
  have hat:=jW D.ps kk p hp
  have s0:w1.cell? ⟨b',o'+kk*2,none⟩=some (pv p.x):=(hcc _ (by omega)).trans hat.1
  have s1:w1.cell? ⟨b',o'+kk*2+1,none⟩=some (pv p.r):=by rw[Nat.add_assoc];exact(hcc _ (by omega)).trans hat.2
  obtain⟨px,st,r,F,G,E⟩:=p
  unfold pv at s0 s1
  simp only at s0 s1
  have q2:(0:Int)≤(kk:Int):=by omega
  have q3:(kk:Int)<(D.ps.length:Int):=by omega
  clear hcc hat hp hkk oN
  go_upto_region 10 with(fail)
  have iD:Hid (∀wx,Keeps Non w1 wx→wx.cell? ⟨D.b,0,none⟩=some (.slice (some ⟨b',o',none⟩) D.ps.length sc)∧wx.cell? ⟨ob,1,none⟩=some (.int .i64 a)∧wx.cell? ⟨b',o'+kk*2,none⟩=some (.pointer (some ⟨px,0,none⟩))∧wx.cell? ⟨b',o'+kk*2+1,none⟩=some (.pointer (some ⟨r,0,none⟩))):=fun wx hk=>by
   have hbl:=hk.below (Nat.le_refl _) (fun _ _ h=>h)
   have h1:=(dR (X:=aj ob _ dF :: X) fJ.out).keeps hk fun h=>h
   have h2:aS wx ob (List.toArray [.int .i64 6,.int .i64 a,.int .i64 c,.string s,.string bb,.slice la L.length lc,.slice ma M.length mc,.slice da Dd.length dc]) dF:=(show aS w1 ob _ dF from fJ.out.head).keeps hk fun h=>h
   refine⟨?_,h2.cell 1,(hbl.cell (p:=⟨b',o'+kk*2,none⟩) kZ).trans s0,(hbl.cell (p:=⟨b',o'+kk*2+1,none⟩) kZ).trans s1⟩
   rw[←zu.out]
   exact h1.cell 0
  have q4:IntKind.i64.wrap (kk:Int)=(kk:Int):=IntWalk.i64_in _ (by omega)
  have hc:Keeps Non w1 w1:=Keeps.refl _ _
  go_cut [6] (fun v6 wx=>∃pb,v6=.pointer (some ⟨pb,0,none⟩)∧Hid (Parts (aj pb #[.pointer (some ⟨px,0,none⟩),.pointer (some ⟨r,0,none⟩)] ji :: aj ob (List.toArray [.int .i64 6,.int .i64 a,.int .i64 c,.string s,.string bb,.slice la L.length lc,.slice ma M.length mc,.slice da Dd.length dc]) dF :: (X++au D)) wx))
  case first=>
   go_region_held3 (fun w'=>w'.cell? ⟨D.b,0,none⟩=some (.slice (some ⟨b',o',none⟩) D.ps.length sc)∧w'.cell? ⟨ob,1,none⟩=some (.int .i64 a)∧w'.cell? ⟨b',o'+kk*2,none⟩=some (.pointer (some ⟨px,0,none⟩))∧w'.cell? ⟨b',o'+kk*2+1,none⟩=some (.pointer (some ⟨r,0,none⟩))) (first|exact⟨c0,op1,s0,s1⟩|exact iD.out _ hc|exact iD.out _ hc.drew|exact iD.out _ (hc.alloc _)|exact iD.out _ (hc.drew.alloc _)) (first
    |(go_at_call 60
      refine(vF.out _).mono ?_
      rintro e w2 ⟨rfl,rfl⟩))
   all_goals (
    go_wp2_with fail
    go_meet
    first
     |exact⟨_,rfl,fJ.out.blk _ _⟩
     |exact⟨_,rfl,(fJ.out.blk _ _).non (Keeps.refl _ _).drew⟩
     |exact⟨_,rfl,(fJ.out.non (Keeps.refl _ _).drew).blk _ _⟩
     |exact⟨_,rfl,((fJ.out.non (Keeps.refl _ _).drew).blk _ _).non (Keeps.refl _ _).drew⟩
     |exact⟨_,rfl,(fJ.out.blk _ _).non ((Keeps.refl _ _).drewN _)⟩
     |exact⟨_,rfl,((fJ.out.non ((Keeps.refl _ _).drewN _)).blk _ _).non ((Keeps.refl _ _).drewN _)⟩)
  case rest=>
   obtain⟨pb,hsh,HP⟩:=hcut
   subst hsh
   clear s0 s1 c0 qU op1 rD zu vF fJ iD hc
   generalize wc=w2 at *
   have hob:aS w2 ob (List.toArray [.int .i64 6,.int .i64 a,.int .i64 c,.string s,.string bb,.slice la L.length lc,.slice ma M.length mc,.slice da Dd.length dc]) dF:=HP.out.all (aj ob _ dF) (by simp)
   have hpb:aS w2 pb #[.pointer (some ⟨px,0,none⟩),.pointer (some ⟨r,0,none⟩)] ji:=HP.out.head
   have hpr:=lX (X:=aj pb _ ji :: aj ob _ dF :: X) HP.out lY.out
   have sF:=Lib.hid hpr
   have qU:=hob.cell 0
   have Cj:=hob.cell 3
   have FX:=hob.cell 5
   have Ac:=hob.cell 6
   have p0:=hpb.cell 0
   have p1:=hpb.cell 1
   have x0:=hpr.box.cell 0
   unfold pv at x0
   simp only[List.getElem?_toArray,List.getElem?_cons_zero,List.getElem?_cons_succ] at qU Cj FX Ac p0 p1 x0
   clear hob hpb hpr
   have QO:Hid (∀wx,Keeps Non w2 wx→aU wx F st E):=fun wx hk=>sF.out.st.non hk
   have NR:Hid (∀wx,Keeps Non w2 wx→Rd wx 1 (.slice ma M.length mc) M.length (bf M)):=fun wx hk=>((oG.out.op.low (kS (X:=aj pb _ ji :: aj ob _ dF :: X) HP.out (List.mem_cons_of_mem _ (List.mem_cons_of_mem _ oG.out.low)))).rm).non hk
   have UO:Hid (∀r∈M,r.length≤1099511627776):=fun r hr=>by have:=oG.out.op.nm r hr;omega
   have CU:Hid (∀wx,Keeps Non w2 wx→Calls Tryz.prog 19 #[.pointer (some ⟨st,0,none⟩),.slice ma M.length mc] wx (Dc wx E M)):=fun wx hk=>Pm wx (QO.out wx hk) M _ (NR.out wx hk) (by omega) UO.out
   have iD:Hid (∀wx,Keeps Non w2 wx→wx.cell? ⟨pb,0,none⟩=some (.pointer (some ⟨px,0,none⟩))∧wx.cell? ⟨px,0,none⟩=some (.pointer (some ⟨st,0,none⟩))∧wx.cell? ⟨ob,6,none⟩=some (.slice ma M.length mc)):=fun wx hk=>by
    have h:=HP.out.non hk
    have hob:aS wx ob (List.toArray [.int .i64 6,.int .i64 a,.int .i64 c,.string s,.string bb,.slice la L.length lc,.slice ma M.length mc,.slice da Dd.length dc]) dF:=h.all (aj ob _ dF) (by simp)
    have hpb:aS wx pb #[.pointer (some ⟨px,0,none⟩),.pointer (some ⟨r,0,none⟩)] ji:=h.head
    have hpr:=lX (X:=aj pb _ ji :: aj ob _ dF :: X) h lY.out
    exact⟨hpb.cell 0,hpr.box.cell 0,hob.cell 6⟩
   have hc:Keeps Non w2 w2:=Keeps.refl _ _
   go_upto_region 34 with(fail)
   go_cut [18,19] (fun v ev wx=>∃(T:List UInt8) (er:Int),v=.string ⟨T.toArray⟩∧ev=.int .i64 er∧Hid (Keeps Non w2 wx)∧Hid (Pj E M er T))
   case first=>
    go_region_held3 (fun w'=>w'.cell? ⟨pb,0,none⟩=some (.pointer (some ⟨px,0,none⟩))∧w'.cell? ⟨px,0,none⟩=some (.pointer (some ⟨st,0,none⟩))∧w'.cell? ⟨ob,6,none⟩=some (.slice ma M.length mc)) (with_reducible first|exact⟨p0,x0,Ac⟩|exact iD.out _ hc|exact iD.out _ hc.drew) (first
     |(go_at_call 19
       refine(CU.out _ (by first|exact hc|exact hc.drew)).mono ?_
       rintro e w3 ⟨er,T,hcs,rfl,hk3⟩
       replace hc:=Keeps.tn hc (by first|exact hk3|exact hk3.un)
       clear hk3
       obtain⟨p0,x0,Ac⟩:=iD.out _ hc))
    all_goals (
     go_wp2_with fail
     go_meet
     exact⟨T,er,rfl,rfl,by first|exact hc|exact hc.drew,hcs⟩)
   case rest=>
    obtain⟨T,er,rfl,rfl,kL,X6⟩:=hcut
    generalize wc=w3 at *
    have lQ:Hid (Parts ((aj pb #[.pointer (some ⟨px,0,none⟩),.pointer (some ⟨r,0,none⟩)] ji :: aj ob (List.toArray [.int .i64 6,.int .i64 a,.int .i64 c,.string s,.string bb,.slice la L.length lc,.slice ma M.length mc,.slice da Dd.length dc]) dF :: X)++au D) w3):=HP.out.non kL.out
    have hob:aS w3 ob (List.toArray [.int .i64 6,.int .i64 a,.int .i64 c,.string s,.string bb,.slice la L.length lc,.slice ma M.length mc,.slice da Dd.length dc]) dF:=lQ.out.all (aj ob _ dF) (by simp)
    have hpb:aS w3 pb #[.pointer (some ⟨px,0,none⟩),.pointer (some ⟨r,0,none⟩)] ji:=lQ.out.head
    have t6:=hob.cell 6
    have t1:=hpb.cell 1
    simp only[List.getElem?_toArray,List.getElem?_cons_zero,List.getElem?_cons_succ] at t6 t1
    have D7:=Lib.hid (MS w3 (sF.out.qt.non kL.out) sF.out.st.ok sF.out.st.fit M _ (NR.out w3 kL.out) (by omega) er T X6.out)
    have yM:Hid (T.length≤1000000):=by
     show _≤_
     rcases X6.out with⟨_,_,rfl⟩|⟨_,K,_,_,rfl⟩
     ·simp
     ·exact Nat.le_trans (Ju sF.out.st.ok (E5 sF.out.st.ok K)) (by decide)
    have HER:Hid (er=0∨er=15):=by
     show _∨_
     rcases X6.out with⟨_,h,_⟩|⟨_,K,_,h,_⟩
     ·exact .inr h
     ·exact .inl h
    unfold pv at D7
    clear hob hpb p0 p1 x0 qU Cj FX Ac hc iD CU QO NR HP kL X6
    go_wp2_with fail
    refine D7.out.mono ?_
    rintro e w4 ⟨rfl,hk4⟩
    have zZ:=Lib.hid (lQ.out.non hk4)
    clear hk4 lQ D7 t6 t1
    rcases HER.out with he|he
    ·subst he
     have hbs:=XT (X:=aj pb _ ji :: aj ob _ dF :: X) zZ.out
     obtain⟨ba,bc,hbv,hb1,hb2⟩:=hbs.shape
     unfold maxLen at hb2
     have hbd:=dR (X:=aj pb _ ji :: aj ob _ dF :: X) zZ.out
     have c1:w4.cell? ⟨D.b,1,none⟩=some (.slice ba D.bs.length bc):=by rw[←hbv];exact hbd.cell 1
     rw[hbv] at hbs
     have HBV:=Lib.hid hbv
     have HBS:=Lib.hid hbs
     clear hbv hbs hbd
     obtain⟨i1,hj,hj0,hj1,hj2⟩:=info_parts lM
     go_wp2_with (at_builtin;refine ay rfl _ _ 26 26 rfl 9 i1 _ 1 16 Tryz.underlying26 hj hj0 hj1 hj2 rfl 0 _ _ _ rfl _ rfl 1 [.string ⟨T.toArray⟩] ?Om (HBS.out.alloc _) ?Oo ?Oq ?Ot ?_)
     try (case Om=>omega)
     case Oo=>
      exact Src.kP Tryz.underlying26 (Sl.dM w4 0 (Nat.zero_le _) 9 1 1 [.string ⟨T.toArray⟩] rfl (by simp[maxLen])) (by intro u hu;simp only[List.mem_cons,List.not_mem_nil,or_false] at hu;subst hu;rfl)
     case Oq=>unfold maxLen;omega
     case Ot=>omega
     intro ao cc w5 hs5 hk5 afb hb5
     have U9:Hid (Parts ((aj pb #[.pointer (some ⟨px,0,none⟩),.pointer (some ⟨r,0,none⟩)] ji :: aj ob (List.toArray [.int .i64 6,.int .i64 a,.int .i64 c,.string s,.string bb,.slice la L.length lc,.slice ma M.length mc,.slice da Dd.length dc]) dF :: X)++au (D.told (.slice ao (D.bs.length+1) cc) T)) (w5.setCell ⟨D.b,1,none⟩ (.slice ao (D.bs.length+1) cc))):=
      Vt (w:=w4.alloc (.cells #[.string ⟨T.toArray⟩] 9)) (zZ.out.non ((Keeps.refl _ _).alloc _)) hs5 (by rw[HBV.out];exact afb) (by
       rcases hb5 with h1|h1
       ·exact .inl (by rw[HBV.out];exact h1)
       ·exact .inr ⟨_,h1,by simp⟩)
     have hbk:aS (w4.alloc (.cells #[.string ⟨T.toArray⟩] 9)) D.b (gu D) x9:=(dR (X:=aj pb _ ji :: aj ob _ dF :: X) zZ.out).alloc _
     have HB5:Hid (aS w5 D.b (gu D) x9):=hbk.kp hk5 (.inr (by decide))
     have c1':w5.cell? ⟨D.b,1,none⟩=some D.I8:=HB5.out.cell 1
     have f1:=HB5.out.free 1
     clear hs5 hk5 afb hb5 hj hj0 hj1 hj2 c1 hbk
     go_wp2_with fail
     go_ret
     exact⟨rfl,_,LD.Ru D _ _ yM.out,U9.out.tail.tail⟩
    ·subst he
     go_wp2_with fail
     go_ret
     exact⟨rfl,D,LD.Next.refl D,zZ.out.tail.tail⟩
theorem XV{X:List Part}{D:LD}{w W0:World}{o:xK}(hin:qR X D w W0 o)(hkind:o.kind=7)(hnb:D.bs.length≤1000000)(hbt:∀s∈D.bs,s.length≤1048576):
 Calls Tryz.prog 32 #[pv D.b,.agg (opC o).toArray] w (iW X D):=by
 obtain⟨kind,a,c,s,bb,vl,vm,vd,L,M,Dd⟩:=o
 simp only at hkind
 subst hkind
 obtain⟨la,lc,hsl,hl1,hl2⟩:=hin.op.rl.shape
 obtain⟨ma,mc,hsm,hm1,hm2⟩:=hin.op.rm.shape
 obtain⟨da,dc,hsd,hd1,hd2⟩:=hin.op.rd.shape
 simp only at hsl hsm hsd hl1 hm1 hd1
 subst hsl hsm hsd
 have oG:=Lib.hid hin
 have hnp:=hin.np
 have hnl:=hin.nl
 have hnt:=hin.nt
 have G6:=hin.op.ll
 have G7:=hin.op.lm
 have G8:=hin.op.ls
 have hia:=hin.op.ia
 simp only at G6 G7 G8 hia
 unfold maxLen at hl2 hm2 hd2
 have fJ:Hid (Parts (aj w.heap.size (opC ⟨7,a,c,s,bb,.slice la L.length lc,.slice ma M.length mc,.slice da Dd.length dc,L,M,Dd⟩).toArray dF :: (X++au D)) (w.alloc (.cells (opC ⟨7,a,c,s,bb,.slice la L.length lc,.slice ma M.length mc,.slice da Dd.length dc,L,M,Dd⟩).toArray dF))):=hin.parts.blk _ _
 clear hin
 unfold pv opC at *
 go_enter Tryz.func32,Tryz.ntmps32
 go_upto_region 1 with(fail)
 generalize w.heap.size=ob at *
 generalize w.alloc (.cells (List.toArray [.int .i64 7,.int .i64 a,.int .i64 c,.string s,.string bb,.slice la L.length lc,.slice ma M.length mc,.slice da Dd.length dc]) 67)=w1 at *
 have hob:aS w1 ob (List.toArray [.int .i64 7,.int .i64 a,.int .i64 c,.string s,.string bb,.slice la L.length lc,.slice ma M.length mc,.slice da Dd.length dc]) dF:=fJ.out.head
 have qU:=hob.cell 0
 have op1:=hob.cell 1
 simp only[List.getElem?_toArray,List.getElem?_cons_zero,List.getElem?_cons_succ] at qU op1
 clear hob
 have hbd:=dR (X:=aj ob _ dF :: X) fJ.out
 have hss:=uy (X:=aj ob _ dF :: X) fJ.out
 obtain⟨sa,sc,hsv,hs1,hs2⟩:=hss.shape
 unfold maxLen at hs2
 have c0:w1.cell? ⟨D.b,0,none⟩=some (.slice sa D.ps.length sc):=by rw[←hsv];exact hbd.cell 0
 rw[hsv] at hss
 have rD:=Lib.hid hss
 have zu:=Lib.hid hsv
 clear hsv hss hbd
 by_cases hz:D.ps.length=0
 ·rw[hz] at c0
  have BZ:=fJ
  go_wp2_with fail
  go_ret
  exact⟨rfl,D,LD.Next.refl D,BZ.out.tail⟩
 ·obtain⟨kk,hkk,oN⟩:=jX a (D.ps.length:Int) (by omega)
  have jY:kk<D.ps.length:=by omega
  obtain⟨p,hp⟩:∃p,D.ps[kk]? =some p:=⟨_,List.getElem?_eq_getElem jY⟩
  have vF:Hid (∀wx,Calls Tryz.prog 60 #[.int .i64 a,.int .i64 D.ps.length] wx fun e w'=>e=.returned (.int .i64 kk)∧wx=w'):=fun wx=>by
   have:=pick_any a (D.ps.length:Int) wx hia.1 hia.2 (by omega) (by omega)
   rw[hkk] at this
   exact this
  have lY:Hid (p∈D.ps):=List.mem_of_getElem? hp
  obtain⟨b',o',c',hsh,-,-,-,kZ,hcc,-⟩:=rD.out.pos (by omega)
  obtain⟨rfl,rfl⟩:sa=some ⟨b',o',none⟩∧sc=c':=by cases hsh;exact⟨rfl,rfl⟩
  clear hsh
  have hat:=jW D.ps kk p hp
  have s0:w1.cell? ⟨b',o'+kk*2,none⟩=some (pv p.x):=(hcc _ (by omega)).trans hat.1
  have s1:w1.cell? ⟨b',o'+kk*2+1,none⟩=some (pv p.r):=by rw[Nat.add_assoc];exact(hcc _ (by omega)).trans hat.2
  obtain⟨px,st,r,F,G,E⟩:=p
  unfold pv at s0 s1
  simp only at s0 s1
  have q2:(0:Int)≤(kk:Int):=by omega
  have q3:(kk:Int)<(D.ps.length:Int):=by omega
  clear hcc hat hp hkk oN
  go_upto_region 10 with(fail)
  have iD:Hid (∀wx,Keeps Non w1 wx→wx.cell? ⟨D.b,0,none⟩=some (.slice (some ⟨b',o',none⟩) D.ps.length sc)∧wx.cell? ⟨ob,1,none⟩=some (.int .i64 a)∧wx.cell? ⟨b',o'+kk*2,none⟩=some (.pointer (some ⟨px,0,none⟩))∧wx.cell? ⟨b',o'+kk*2+1,none⟩=some (.pointer (some ⟨r,0,none⟩))):=fun wx hk=>by
   have hbl:=hk.below (Nat.le_refl _) (fun _ _ h=>h)
   have h1:=(dR (X:=aj ob _ dF :: X) fJ.out).keeps hk fun h=>h
   have h2:aS wx ob (List.toArray [.int .i64 7,.int .i64 a,.int .i64 c,.string s,.string bb,.slice la L.length lc,.slice ma M.length mc,.slice da Dd.length dc]) dF:=(show aS w1 ob _ dF from fJ.out.head).keeps hk fun h=>h
   refine⟨?_,h2.cell 1,(hbl.cell (p:=⟨b',o'+kk*2,none⟩) kZ).trans s0,(hbl.cell (p:=⟨b',o'+kk*2+1,none⟩) kZ).trans s1⟩
   rw[←zu.out]
   exact h1.cell 0
  have q4:IntKind.i64.wrap (kk:Int)=(kk:Int):=IntWalk.i64_in _ (by omega)
  have hc:Keeps Non w1 w1:=Keeps.refl _ _
  go_cut [6] (fun v6 wx=>∃pb,v6=.pointer (some ⟨pb,0,none⟩)∧Hid (Parts (aj pb #[.pointer (some ⟨px,0,none⟩),.pointer (some ⟨r,0,none⟩)] ji :: aj ob (List.toArray [.int .i64 7,.int .i64 a,.int .i64 c,.string s,.string bb,.slice la L.length lc,.slice ma M.length mc,.slice da Dd.length dc]) dF :: (X++au D)) wx))
  case first=>
   go_region_held3 (fun w'=>w'.cell? ⟨D.b,0,none⟩=some (.slice (some ⟨b',o',none⟩) D.ps.length sc)∧w'.cell? ⟨ob,1,none⟩=some (.int .i64 a)∧w'.cell? ⟨b',o'+kk*2,none⟩=some (.pointer (some ⟨px,0,none⟩))∧w'.cell? ⟨b',o'+kk*2+1,none⟩=some (.pointer (some ⟨r,0,none⟩))) (first|exact⟨c0,op1,s0,s1⟩|exact iD.out _ hc|exact iD.out _ hc.drew|exact iD.out _ (hc.alloc _)|exact iD.out _ (hc.drew.alloc _)) (first
    |(go_at_call 60
      refine(vF.out _).mono ?_
      rintro e w2 ⟨rfl,rfl⟩))
   all_goals (
    go_wp2_with fail
    go_meet
    first
     |exact⟨_,rfl,fJ.out.blk _ _⟩
     |exact⟨_,rfl,(fJ.out.blk _ _).non (Keeps.refl _ _).drew⟩
     |exact⟨_,rfl,(fJ.out.non (Keeps.refl _ _).drew).blk _ _⟩
     |exact⟨_,rfl,((fJ.out.non (Keeps.refl _ _).drew).blk _ _).non (Keeps.refl _ _).drew⟩
     |exact⟨_,rfl,(fJ.out.blk _ _).non ((Keeps.refl _ _).drewN _)⟩
     |exact⟨_,rfl,((fJ.out.non ((Keeps.refl _ _).drewN _)).blk _ _).non ((Keeps.refl _ _).drewN _)⟩)
  case rest=>
   obtain⟨pb,hsh,HP⟩:=hcut
   subst hsh
   clear s0 s1 c0 qU op1 rD zu vF fJ iD hc
   generalize wc=w2 at *
   have hob:aS w2 ob (List.toArray [.int .i64 7,.int .i64 a,.int .i64 c,.string s,.string bb,.slice la L.length lc,.slice ma M.length mc,.slice da Dd.length dc]) dF:=HP.out.all (aj ob _ dF) (by simp)
   have hpb:aS w2 pb #[.pointer (some ⟨px,0,none⟩),.pointer (some ⟨r,0,none⟩)] ji:=HP.out.head
   have hpr:=lX (X:=aj pb _ ji :: aj ob _ dF :: X) HP.out lY.out
   have sF:=Lib.hid hpr
   have qU:=hob.cell 0
   have Cj:=hob.cell 3
   have FX:=hob.cell 5
   have Ac:=hob.cell 6
   have p0:=hpb.cell 0
   have p1:=hpb.cell 1
   have x0:=hpr.box.cell 0
   unfold pv at x0
   simp only[List.getElem?_toArray,List.getElem?_cons_zero,List.getElem?_cons_succ] at qU Cj FX Ac p0 p1 x0
   clear hob hpb hpr
   have hob:aS w2 ob (List.toArray [.int .i64 7,.int .i64 a,.int .i64 c,.string s,.string bb,.slice la L.length lc,.slice ma M.length mc,.slice da Dd.length dc]) dF:=HP.out.all (aj ob _ dF) (by simp)
   have op2:=hob.cell 2
   have op4:=hob.cell 4
   simp only[List.getElem?_toArray,List.getElem?_cons_zero,List.getElem?_cons_succ] at op2 op4
   have hbs:=XT (X:=aj pb _ ji :: aj ob _ dF :: X) HP.out
   obtain⟨ba,bc,hbv,hb1,hb2⟩:=hbs.shape
   unfold maxLen at hb2
   have hbd:=dR (X:=aj pb _ ji :: aj ob _ dF :: X) HP.out
   have c1:w2.cell? ⟨D.b,1,none⟩=some (.slice ba D.bs.length bc):=by rw[←hbv];exact hbd.cell 1
   rw[hbv] at hbs
   have HBS:=Lib.hid hbs
   have aiI:=Lib.hid hbd.lt
   have aiJ:=Lib.hid hob.lt
   have hic:=oG.out.op.ic
   have hlb:=oG.out.op.lb
   simp only at hic hlb
   clear hob hbv hbs hbd p0 p1 x0
   go_upto_region 41 with(fail)
   clear qU Cj FX Ac
   obtain⟨gg,hgg⟩:∃gg,(bb.size==0&&decide (0<D.bs.length))=gg:=⟨_,rfl⟩
   have HGG:=Lib.hid hgg
   clear hgg
   go_cut [221] (fun v wx=>v=.bool gg∧w2=wx)
   case first=>as_aux_lemma=>
    clear hia hnp hnl hnt G6 G7 G8 hs2 hl2 hm2 hd2 hl1 hm1 hd1
    by_cases hb0:bb.size=0
    ·have he:bb.toList.isEmpty=true:=by rw[ByteArray.toList_eq];have:=dlen bb;rw[hb0] at this;rw[List.eq_nil_of_length_eq_zero this];rfl
     by_cases hn:D.bs.length=0
     ·have h2:gg=false:=by rw[←HGG.out,hn];simp
      rw[hn] at c1
      subst h2
      clear hb0
      go_wp2_with fail
      go_meet
      exact⟨rfl,rfl⟩
     ·have h2:gg=true:=by rw[←HGG.out,hb0];simp;omega
      have r4:decide ((0:Int)<(D.bs.length:Int))=true:=decide_eq_true (by omega)
      have r5:0<D.bs.length:=by omega
      subst h2
      clear hb0 hn
      go_wp2_with fail
      go_meet
      exact⟨rfl,rfl⟩
    ·have he:bb.toList.isEmpty=false:=by
      rw[ByteArray.toList_eq]
      have:=dlen bb
      cases hc:bb.data.toList with
      |nil=>rw[hc] at this;simp at this;omega
      |cons x r=>rfl
     have h2:gg=false:=by rw[←HGG.out,beq_eq_false_iff_ne.2 hb0];rfl
     subst h2
     clear hb0
     go_wp2_with fail
     go_meet
     exact⟨rfl,rfl⟩
   obtain⟨rfl,rfl⟩:=hcut
   go_upto_if 221 with(fail)
   go_cut [22] (fun v wx=>∃bx:ByteArray,v=.string bx∧bx.size≤1048576∧Hid (Keeps Non w2 wx))
   case first=>as_aux_lemma=>
    cases gg with
    |true=>
     have hn:¬D.bs.length=0:=by
      have h1:=HGG.out
      simp at h1
      omega
     obtain⟨jj,hjj,hjj2⟩:=jX c (D.bs.length:Int) (by omega)
     have afc:jj<D.bs.length:=by omega
     obtain⟨t,ht⟩:∃t,D.bs[jj]? =some t:=⟨_,List.getElem?_eq_getElem afc⟩
     have htl:t.length≤1048576:=hbt t (List.mem_of_getElem? ht)
     have HPJ:Hid (∀wx,Calls Tryz.prog 60 #[.int .i64 c,.int .i64 D.bs.length] wx fun e w'=>e=.returned (.int .i64 jj)∧w'=wx):=fun wx=>by
      have:=pick_any c (D.bs.length:Int) wx hic.1 hic.2 (by omega) (by omega)
      rw[hjj] at this
      exact this.mono fun _ _ h=>⟨h.1,h.2.symm⟩
     obtain⟨b2,o2,BG,hsh,-,-,-,Lj,hcc,-⟩:=HBS.out.pos (by omega)
     cases hsh
     have d0:w2.cell? ⟨b2,o2+jj,none⟩=some (.string ⟨t.toArray⟩):=(hcc jj (by omega)).trans (by rw[dJ _ _ afc];have:=(List.getElem?_eq_some_iff.1 ht).2;rw[this];rfl)
     have r2:(0:Int)≤(jj:Int):=by omega
     have r3:(jj:Int)<(D.bs.length:Int):=by omega
     clear hn hcc ht hjj hjj2
     go_wp2_with fail
     have HC2:Hid (∀wx,Keeps Non w2 wx→wx.cell? ⟨D.b,1,none⟩=some (.slice (some ⟨b2,o2,none⟩) D.bs.length bc)∧wx.cell? ⟨ob,2,none⟩=some (.int .i64 c)∧wx.cell? ⟨b2,o2+jj,none⟩=some (.string ⟨t.toArray⟩)):=fun wx hk=>by
      have hbl:=hk.below (Nat.le_refl _) (fun _ _ h=>h)
      exact⟨(hbl.cell (p:=⟨D.b,1,none⟩) aiI.out).trans c1,(hbl.cell (p:=⟨ob,2,none⟩) aiJ.out).trans op2,(hbl.cell (p:=⟨b2,o2+jj,none⟩) Lj).trans d0⟩
     have hc:Keeps Non w2 w2:=Keeps.refl _ _
     go_region_held3 (fun w'=>w'.cell? ⟨D.b,1,none⟩=some (.slice (some ⟨b2,o2,none⟩) D.bs.length bc)∧w'.cell? ⟨ob,2,none⟩=some (.int .i64 c)∧w'.cell? ⟨b2,o2+jj,none⟩=some (.string ⟨t.toArray⟩)) (first|exact⟨c1,op2,d0⟩|exact HC2.out _ hc|exact HC2.out _ hc.drew) (first
      |(go_at_call 60
        refine(HPJ.out _).mono ?_
        rintro e w3 ⟨rfl,rfl⟩))
     go_wp2_with fail
     go_meet
     exact⟨⟨t.toArray⟩,rfl,by show t.toArray.size≤_;simpa using htl,by first|exact Keeps.refl _ _|exact(Keeps.refl _ _).drew⟩
    |false=>
     go_wp2_with fail
     go_meet
     exact⟨bb,rfl,hlb,Keeps.refl _ _⟩
   case rest=>
    obtain⟨bx,hsh,hbx,kL⟩:=hcut
    subst hsh
    generalize wc=w3 at *
    have lQ:=Lib.hid (HP.out.non kL.out)
    obtain⟨XX,YT⟩:∃XX,aj pb #[.pointer (some ⟨px,0,none⟩),.pointer (some ⟨r,0,none⟩)] ji :: aj ob (List.toArray [.int .i64 7,.int .i64 a,.int .i64 c,.string s,.string bb,.slice la L.length lc,.slice ma M.length mc,.slice da Dd.length dc]) dF :: X=XX:=⟨_,rfl⟩
    have FW:Hid (Parts (XX++au D) w3):=by rw[←YT];exact lQ.out
    have ZL:=Lib.hid YT
    have JJ:=Lib.hid (lX FW.out lY.out)
    have XW:=kS (W0:=W0) FW.out (by rw[←YT];simp[oG.out.low])
    have HT3:=Lib.hid (oG.out.tabs.below XW oG.out.tabs.top)
    have NR:Hid (Rd w3 1 (.slice da Dd.length dc) Dd.length (intCells Dd)):=(oG.out.op.low XW).rd
    have hdl:=oG.out.op.ld
    simp only at hdl
    have ZY:Hid (∀z∈Dd,-9223372036854775808≤z∧z≤9223372036854775807):=oG.out.op.nd
    obtain⟨R,hR⟩:∃R,pV E bx.data.toList=R:=⟨_,rfl⟩
    have HPC:Hid (∀wx,Keeps Non w3 wx→Calls Tryz.prog 69 #[.string bx,.slice da Dd.length dc] wx fun ed w'=>∃(a:Option Addr) (n:Nat) (out:List (List UInt8)),ed=.returned (.slice a out.length n)∧Rd w' 1 (.slice a out.length n) out.length (bf out)∧out.flatten=bx.data.toList∧out.length≤4194304∧Keeps Non wx w'):=fun wx hk=>
     (P6 bx _ Dd wx (NR.out.non hk) (by omega) (by omega) ZY.out).mono (by
       rintro ed w' ⟨⟨v',out,rfl,h1,h2,h3⟩,h4⟩
       obtain⟨a1,n1,rfl,-,-⟩:=h1.shape
       exact⟨a1,n1,out,rfl,h1.rd,h2,by omega,h4⟩)
    have HIC:Hid (∀(wx:World) (v:Value) (out:List (List UInt8)),Keeps Non w3 wx→Rd wx 1 v out.length (bf out)→out.flatten=bx.data.toList→out.length≤4194304→
     Calls Tryz.prog 21 #[.pointer (some ⟨st,0,none⟩),v] wx fun ed w'=>∃(a:Option Addr) (n:Nat),ed=.returned (.tuple #[.slice a R.1.length n,.int .i64 R.2.1,.int .i64 R.2.2.1])∧yj w3 F st R (.slice a R.1.length n) w'):=fun wx v out hk hv hfl hol=>by
     have hst:=JJ.out.st.non hk
     have aiM:out.flatten.length≤549755813888:=by rw[hfl,dlen];omega
     refine(Px wx hst (HT3.out.keeps hk) out v hv aiM (by omega)).mono fun ed w' hp=>?_
     rw[hfl] at hp
     obtain⟨v2,he,hi⟩:=XR hp hst
     rw[hR] at he hi
     obtain⟨a1,n1,rfl,-,-⟩:=hi.sl.shape
     exact⟨a1,n1,he,hi.before hk⟩
    have HRR:=Lib.hid hR
    have iD:Hid (∀wx,Keeps F w3 wx→wx.cell? ⟨pb,0,none⟩=some (.pointer (some ⟨px,0,none⟩))∧wx.cell? ⟨px,0,none⟩=some (.pointer (some ⟨st,0,none⟩))∧wx.cell? ⟨ob,7,none⟩=some (.slice da Dd.length dc)∧wx.cell? ⟨pb,1,none⟩=some (.pointer (some ⟨r,0,none⟩))):=fun wx hk=>by
     have m1:aj ob (List.toArray [.int .i64 7,.int .i64 a,.int .i64 c,.string s,.string bb,.slice la L.length lc,.slice ma M.length mc,.slice da Dd.length dc]) dF∈XX:=by rw[←ZL.out];simp
     have m2:aj pb #[.pointer (some ⟨px,0,none⟩),.pointer (some ⟨r,0,none⟩)] ji∈XX:=by rw[←ZL.out];simp
     have hob:aS wx ob (List.toArray [.int .i64 7,.int .i64 a,.int .i64 c,.string s,.string bb,.slice la L.length lc,.slice ma M.length mc,.slice da Dd.length dc]) dF:=(show aS w3 ob _ dF from FW.out.all _ (List.mem_append_left _ m1)).keeps hk fun h=>tq FW.out m1 lY.out ob rfl (.inr (.inl h))
     have hpb:aS wx pb #[.pointer (some ⟨px,0,none⟩),.pointer (some ⟨r,0,none⟩)] ji:=(show aS w3 pb _ ji from FW.out.all _ (List.mem_append_left _ m2)).keeps hk fun h=>tq FW.out m2 lY.out pb rfl (.inr (.inl h))
     have hbx:=JJ.out.box.keeps hk JJ.out.nF
     exact⟨hpb.cell 0,hbx.cell 0,hob.cell 7,hpb.cell 1⟩
    obtain⟨p0,x0,op7,-⟩:=iD.out w3 (Keeps.refl _ _)
    have hN:Keeps Non w3 w3:=Keeps.refl _ _
    have hF0:∀wx,Keeps Non w3 wx→Keeps F w3 wx:=fun wx h=>h.Qq
    have HF0:=Lib.hid hF0
    clear YT hR HP lQ sF XW HBS c1 op2 op4 NR ZY kL hF0
    go_upto_region 43 with(fail)
    go_cut [23,24,25] (fun v ev av wx=>∃(a:Option Addr) (n:Nat),v=.slice a R.1.length n∧ev=.int .i64 R.2.1∧av=.int .i64 R.2.2.1∧Hid (yj w3 F st R (.slice a R.1.length n) wx))
    case first=>as_aux_lemma=>
     go_region_held3 (fun w'=>w'.cell? ⟨pb,0,none⟩=some (.pointer (some ⟨px,0,none⟩))∧w'.cell? ⟨px,0,none⟩=some (.pointer (some ⟨st,0,none⟩))∧w'.cell? ⟨ob,7,none⟩=some (.slice da Dd.length dc)) (first|exact⟨p0,x0,op7⟩) (first
      |(go_at_call 69
        with_reducible refine(HPC.out _ hN.drew).mono ?_
        clear HPC
        rintro e w' ⟨pa,pn,out,rfl,hr,hfl,hol,hk⟩
        have Rq:=Lib.hid hfl
        replace hN:Keeps Non w3 w':=Keeps.tn hN.drew hk
        clear hk hfl
        obtain⟨p0,x0,op7,-⟩:=iD.out _ (HF0.out _ hN))
      |(go_at_call 21
        with_reducible refine(HIC.out _ _ out hN hr Rq.out hol).mono ?_
        clear HIC
        rintro e w5 ⟨ia,im,rfl,hi⟩
        have HI:=Lib.hid hi
        clear hi
        obtain⟨p0,x0,op7,-⟩:=iD.out _ HI.out.kp))
     all_goals (
      go_wp2_with fail
      go_meet
      exact⟨_,_,rfl,rfl,rfl,HI⟩)
    case rest=>
     obtain⟨ia,im,rfl,rfl,rfl,HI⟩:=hcut
     generalize wc=w5 at *
     obtain⟨-,-,-,p1⟩:=iD.out w5 HI.out.kp
     have F7:=Lib.hid (JJ.out.qt.keeps HI.out.kp fun b hb hF=>JJ.out.FG b hF hb)
     have D7:Hid (Calls Tryz.prog 70 #[.pointer (some ⟨r,0,none⟩),.string bx] w5 fun ed w'=>∃(a:Option Addr) (n:Nat),ed=.returned (.tuple #[.slice a R.1.length n,.int .i64 R.2.1,.int .i64 R.2.2.1])∧PY w5 G r R (.slice a R.1.length n) w'):=by
      refine(Nw w5 F7.out JJ.out.st.ok JJ.out.st.fit bx (by omega)).mono fun ed w' hp=>?_
      obtain⟨v2,he,hi⟩:=Ua hp F7.out
      rw[show pV (⟨px,st,r,F,G,E⟩:Pr).L bx.data.toList=R from HRR.out] at he hi
      obtain⟨a1,n1,rfl,-,-⟩:=hi.sl.shape
      exact⟨a1,n1,he,hi⟩
     have HLEN:Hid (R.1.length≤1099511627776):=by
      show _≤_
      rw[←HRR.out]
      have h1:=PZ (S:=bx.data.toList) JJ.out.st.ok
      rw[dlen] at h1
      exact Nat.le_trans h1 (by omega)
     clear p0 x0 op7 hN iD HIC HPC HT3 F7
     go_wp2_with fail
     refine D7.out.mono ?_
     rintro e w6 ⟨qa,qn,rfl,hq⟩
     obtain⟨D',hDb,hDp,hDs,hDl,hDt,D6⟩:=P5 lY.out FW.out HI.out hq
     have HR6:=Lib.hid hq.sl.rd
     have Gl:Hid (Parts (aG iw 1 (.slice ia R.1.length im) R.1.length (bf R.1) :: ((aj pb #[.pointer (some ⟨px,0,none⟩),.pointer (some ⟨r,0,none⟩)] ji :: aj ob (List.toArray [.int .i64 7,.int .i64 a,.int .i64 c,.string s,.string bb,.slice la L.length lc,.slice ma M.length mc,.slice da Dd.length dc]) dF :: X)++au D')) w6):=by
      rw[←ZL.out] at D6
      exact D6
     have HR3:Hid (Rd w6 1 (.slice ia R.1.length im) R.1.length (bf R.1)):=(show Sl w6 0 iw 1 _ _ _ from Gl.out.head).rd
     have aa5:D'.ls.length≤1000000:=by rw[hDl];exact hnl
     have Ad:Hid (∀zf v m,D.Next (D'.jl zf v m)):=fun zf v m=>⟨hDb,by simp[LD.jl];omega,by simp[LD.jl,hDs],by simp[LD.jl,hDl],by simp[LD.jl,hDt],fun x hx=>.inl (by simpa [LD.jl,hDs] using hx)⟩
     have Le:=Lib.hid hDb
     have herr:(R.2.1==R.2.1)=true:=beq_self_eq_true _
     have akP:(R.2.2.1==R.2.2.1)=true:=beq_self_eq_true _
     clear hDb hDp hDs hDl hDt D6 hq D7 p1 HI FW JJ HRR
     generalize R.2.1=z1 at *
     generalize R.2.2.1=z2 at *
     generalize R.1=T at *
     go_wp2_with fail
     refine(wW T T _ _ w6 HR3.out HR6.out).mono ?_
     rintro e w7 ⟨rfl,nd,rfl⟩
     have YJ:=Lib.hid (Gl.out.non ((Keeps.refl _ _).drewN nd))
     have heq:(T==T)=true:=beq_self_eq_true _
     rw[heq]
     have HMC:=Lib.hid (sV (aj pb #[.pointer (some ⟨px,0,none⟩),.pointer (some ⟨r,0,none⟩)] ji :: aj ob (List.toArray [.int .i64 7,.int .i64 a,.int .i64 c,.string s,.string bb,.slice la L.length lc,.slice ma M.length mc,.slice da Dd.length dc]) dF :: X) D' _ _ _ _ YJ.out HLEN.out aa5)
     rw[Le.out] at HMC
     clear heq Gl HR3 HR6
     go_wp2_with fail
     refine HMC.out.mono ?_
     rintro e w8 ⟨rfl,vls',v',VA⟩
     have HP8:=Lib.hid VA
     clear VA HMC
     go_wp2_with fail
     go_ret
     exact⟨rfl,_,Ad.out _ _ _,HP8.out.tail.tail⟩
theorem step_more{X:List Part}{D:LD}{w W0:World}{o:xK}(hin:qR X D w W0 o)(hkind:8≤o.kind):
 Calls Tryz.prog 32 #[pv D.b,.agg (opC o).toArray] w (iW X D):=by
 obtain⟨kind,a,c,s,bb,vl,vm,vd,L,M,Dd⟩:=o
 simp only at hkind
 have g1:(kind==1)=false:=by rw[beq_eq_false_iff_ne];omega
 have g2:(kind==2)=false:=by rw[beq_eq_false_iff_ne];omega
 have g3:(kind==3)=false:=by rw[beq_eq_false_iff_ne];omega
 have g4:(kind==4)=false:=by rw[beq_eq_false_iff_ne];omega
 have g5:(kind==5)=false:=by rw[beq_eq_false_iff_ne];omega
 have g6:(kind==6)=false:=by rw[beq_eq_false_iff_ne];omega
 have g7:(kind==7)=false:=by rw[beq_eq_false_iff_ne];omega
 obtain⟨la,lc,hsl,hl1,hl2⟩:=hin.op.rl.shape
 obtain⟨ma,mc,hsm,hm1,hm2⟩:=hin.op.rm.shape
 obtain⟨da,dc,hsd,hd1,hd2⟩:=hin.op.rd.shape
 simp only at hsl hsm hsd hl1 hm1 hd1
 subst hsl hsm hsd
 have oG:=Lib.hid hin
 have hnp:=hin.np
 have hnl:=hin.nl
 have hnt:=hin.nt
 have G6:=hin.op.ll
 have G7:=hin.op.lm
 have G8:=hin.op.ls
 have hia:=hin.op.ia
 simp only at G6 G7 G8 hia
 unfold maxLen at hl2 hm2 hd2
 have fJ:Hid (Parts (aj w.heap.size (opC ⟨kind,a,c,s,bb,.slice la L.length lc,.slice ma M.length mc,.slice da Dd.length dc,L,M,Dd⟩).toArray dF :: (X++au D)) (w.alloc (.cells (opC ⟨kind,a,c,s,bb,.slice la L.length lc,.slice ma M.length mc,.slice da Dd.length dc,L,M,Dd⟩).toArray dF))):=hin.parts.blk _ _
 clear hin
 unfold pv opC at *
 go_enter Tryz.func32,Tryz.ntmps32
 go_upto_region 1 with(fail)
 generalize w.heap.size=ob at *
 generalize w.alloc (.cells (List.toArray [.int .i64 kind,.int .i64 a,.int .i64 c,.string s,.string bb,.slice la L.length lc,.slice ma M.length mc,.slice da Dd.length dc]) 67)=w1 at *
 have hob:aS w1 ob (List.toArray [.int .i64 kind,.int .i64 a,.int .i64 c,.string s,.string bb,.slice la L.length lc,.slice ma M.length mc,.slice da Dd.length dc]) dF:=fJ.out.head
 have qU:=hob.cell 0
 have op1:=hob.cell 1
 simp only[List.getElem?_toArray,List.getElem?_cons_zero,List.getElem?_cons_succ] at qU op1
 clear hob
 have hbd:=dR (X:=aj ob _ dF :: X) fJ.out
 have hss:=uy (X:=aj ob _ dF :: X) fJ.out
 obtain⟨sa,sc,hsv,hs1,hs2⟩:=hss.shape
 unfold maxLen at hs2
 have c0:w1.cell? ⟨D.b,0,none⟩=some (.slice sa D.ps.length sc):=by rw[←hsv];exact hbd.cell 0
 rw[hsv] at hss
 have rD:=Lib.hid hss
 have zu:=Lib.hid hsv
 clear hsv hss hbd
 by_cases hz:D.ps.length=0
 ·rw[hz] at c0
  have BZ:=fJ
  go_wp2_with fail
  go_ret
  exact⟨rfl,D,LD.Next.refl D,BZ.out.tail⟩
 ·obtain⟨kk,hkk,oN⟩:=jX a (D.ps.length:Int) (by omega)
  have jY:kk<D.ps.length:=by omega
  obtain⟨p,hp⟩:∃p,D.ps[kk]? =some p:=⟨_,List.getElem?_eq_getElem jY⟩
  have vF:Hid (∀wx,Calls Tryz.prog 60 #[.int .i64 a,.int .i64 D.ps.length] wx fun e w'=>e=.returned (.int .i64 kk)∧wx=w'):=fun wx=>by
   have:=pick_any a (D.ps.length:Int) wx hia.1 hia.2 (by omega) (by omega)
   rw[hkk] at this
   exact this
  have lY:Hid (p∈D.ps):=List.mem_of_getElem? hp
  obtain⟨b',o',c',hsh,-,-,-,kZ,hcc,-⟩:=rD.out.pos (by omega)
  obtain⟨rfl,rfl⟩:sa=some ⟨b',o',none⟩∧sc=c':=by cases hsh;exact⟨rfl,rfl⟩
  clear hsh
  have hat:=jW D.ps kk p hp
  have s0:w1.cell? ⟨b',o'+kk*2,none⟩=some (pv p.x):=(hcc _ (by omega)).trans hat.1
  have s1:w1.cell? ⟨b',o'+kk*2+1,none⟩=some (pv p.r):=by rw[Nat.add_assoc];exact(hcc _ (by omega)).trans hat.2
  obtain⟨px,st,r,F,G,E⟩:=p
  unfold pv at s0 s1
  simp only at s0 s1
  have q2:(0:Int)≤(kk:Int):=by omega
  have q3:(kk:Int)<(D.ps.length:Int):=by omega
  clear hcc hat hp hkk oN
  go_upto_region 10 with(fail)
  have iD:Hid (∀wx,Keeps Non w1 wx→wx.cell? ⟨D.b,0,none⟩=some (.slice (some ⟨b',o',none⟩) D.ps.length sc)∧wx.cell? ⟨ob,1,none⟩=some (.int .i64 a)∧wx.cell? ⟨b',o'+kk*2,none⟩=some (.pointer (some ⟨px,0,none⟩))∧wx.cell? ⟨b',o'+kk*2+1,none⟩=some (.pointer (some ⟨r,0,none⟩))):=fun wx hk=>by
   have hbl:=hk.below (Nat.le_refl _) (fun _ _ h=>h)
   have h1:=(dR (X:=aj ob _ dF :: X) fJ.out).keeps hk fun h=>h
   have h2:aS wx ob (List.toArray [.int .i64 kind,.int .i64 a,.int .i64 c,.string s,.string bb,.slice la L.length lc,.slice ma M.length mc,.slice da Dd.length dc]) dF:=(show aS w1 ob _ dF from fJ.out.head).keeps hk fun h=>h
   refine⟨?_,h2.cell 1,(hbl.cell (p:=⟨b',o'+kk*2,none⟩) kZ).trans s0,(hbl.cell (p:=⟨b',o'+kk*2+1,none⟩) kZ).trans s1⟩
   rw[←zu.out]
   exact h1.cell 0
  have q4:IntKind.i64.wrap (kk:Int)=(kk:Int):=IntWalk.i64_in _ (by omega)
  have hc:Keeps Non w1 w1:=Keeps.refl _ _
  go_cut [6] (fun v6 wx=>∃pb,v6=.pointer (some ⟨pb,0,none⟩)∧Hid (Parts (aj pb #[.pointer (some ⟨px,0,none⟩),.pointer (some ⟨r,0,none⟩)] ji :: aj ob (List.toArray [.int .i64 kind,.int .i64 a,.int .i64 c,.string s,.string bb,.slice la L.length lc,.slice ma M.length mc,.slice da Dd.length dc]) dF :: (X++au D)) wx))
  case first=>
   go_region_held3 (fun w'=>w'.cell? ⟨D.b,0,none⟩=some (.slice (some ⟨b',o',none⟩) D.ps.length sc)∧w'.cell? ⟨ob,1,none⟩=some (.int .i64 a)∧w'.cell? ⟨b',o'+kk*2,none⟩=some (.pointer (some ⟨px,0,none⟩))∧w'.cell? ⟨b',o'+kk*2+1,none⟩=some (.pointer (some ⟨r,0,none⟩))) (first|exact⟨c0,op1,s0,s1⟩|exact iD.out _ hc|exact iD.out _ hc.drew|exact iD.out _ (hc.alloc _)|exact iD.out _ (hc.drew.alloc _)) (first
    |(go_at_call 60
      refine(vF.out _).mono ?_
      rintro e w2 ⟨rfl,rfl⟩))
   all_goals (
    go_wp2_with fail
    go_meet
    first
     |exact⟨_,rfl,fJ.out.blk _ _⟩
     |exact⟨_,rfl,(fJ.out.blk _ _).non (Keeps.refl _ _).drew⟩
     |exact⟨_,rfl,(fJ.out.non (Keeps.refl _ _).drew).blk _ _⟩
     |exact⟨_,rfl,((fJ.out.non (Keeps.refl _ _).drew).blk _ _).non (Keeps.refl _ _).drew⟩
     |exact⟨_,rfl,(fJ.out.blk _ _).non ((Keeps.refl _ _).drewN _)⟩
     |exact⟨_,rfl,((fJ.out.non ((Keeps.refl _ _).drewN _)).blk _ _).non ((Keeps.refl _ _).drewN _)⟩)
  case rest=>
   obtain⟨pb,hsh,HP⟩:=hcut
   subst hsh
   clear s0 s1 c0 qU op1 rD zu vF fJ iD hc
   generalize wc=w2 at *
   have hob:aS w2 ob (List.toArray [.int .i64 kind,.int .i64 a,.int .i64 c,.string s,.string bb,.slice la L.length lc,.slice ma M.length mc,.slice da Dd.length dc]) dF:=HP.out.all (aj ob _ dF) (by simp)
   have hpb:aS w2 pb #[.pointer (some ⟨px,0,none⟩),.pointer (some ⟨r,0,none⟩)] ji:=HP.out.head
   have hpr:=lX (X:=aj pb _ ji :: aj ob _ dF :: X) HP.out lY.out
   have sF:=Lib.hid hpr
   have qU:=hob.cell 0
   have Cj:=hob.cell 3
   have FX:=hob.cell 5
   have Ac:=hob.cell 6
   have p0:=hpb.cell 0
   have p1:=hpb.cell 1
   have x0:=hpr.box.cell 0
   unfold pv at x0
   simp only[List.getElem?_toArray,List.getElem?_cons_zero,List.getElem?_cons_succ] at qU Cj FX Ac p0 p1 x0
   clear hob hpb hpr
   clear oG
   go_wp2_with fail
   go_ret
   exact⟨rfl,D,LD.Next.refl D,HP.out.tail.tail⟩
theorem FQ{X:List Part}{D:LD}{w W0:World}{o:xK}(hin:qR X D w W0 o)(hnb:D.bs.length≤1000000)(hbt:∀s∈D.bs,s.length≤1048576):
 Calls Tryz.prog 32 #[pv D.b,.agg (opC o).toArray] w (iW X D):=by
 rcases (by omega:o.kind≤5∨o.kind=6∨o.kind=7∨8≤o.kind) with h|h|h|h
 ·exact Lh hin h
 ·exact XU hin h hnb
 ·exact XV hin h hnb hbt
 ·exact step_more hin h
end Go.Proofs.YtdkogijdfgfpeaaGreatDoor
