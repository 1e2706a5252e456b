/- narlaw.UpTo, with every kind of step; the laws Exports, Imports, All. (Printed by upx.py.) -/
import Derived.Test.YtdkogijdfgfpeaaGreatDoorZLooks
import Derived.Test.YtdkogijdfgfpeaaGreatDoorZStepX
set_option linter.unusedVariables false
namespace Go.Proofs.YtdkogijdfgfpeaaGreatDoor
open Go Go.RowKit
set_option maxHeartbeats 6400000
set_option maxRecDepth 100000
theorem upto6_any(l:List xK)(v:Value)(w:World)(hT:Tabs w)(hv:Rd w 8 v l.length (Cb l))(ho:∀o∈l,uZ w o)(hl:l.length≤200000):
 Calls Tryz.prog 15 #[v,.int .i64 6] w fun e w'=>e=.returned (.int .i64 (-1))∧Below w.heap.size w w':=by
 obtain⟨va,vc,rfl,hc1,hc2⟩:=hv.shape
 unfold maxLen at hc2
 have HV:=Lib.hid hv
 have HO:=Lib.hid ho
 have HT:=Lib.hid hT
 have Qe:=Lib.hid (rP w)
 clear hv ho hT
 go_enter Tryz.func15,Tryz.ntmps15
 go_upto_region 2 with(fail)
 generalize hbe:w.heap.size=b0 at *
 generalize w.alloc (.cells #[.slice none 0 0,.slice none 0 0,.slice none 0 0,.slice none 0 0,.bool false] 73)=w1 at *
 have HBE:=Lib.hid hbe
 clear hbe
 go_wp2_with fail
 go_loopg [13] l.length (fun gk iv wr=>∃(k:Nat) (D:LD),gk=l.length-k∧k≤l.length∧iv=.int .i64 k∧Hid (Parts ([dY w]++au D) wr)∧Hid (D.b=b0)∧D.ps.length≤k∧D.ls.length≤k∧D.ts.length≤k∧D.bs.length≤k∧Hid (∀s∈D.bs,s.length≤1000000))
 case atStart=>exact⟨0,AO b0,rfl,Nat.zero_le _,rfl,Qe,rfl,Nat.le_refl _,Nat.le_refl _,Nat.le_refl _,Nat.le_refl _,(fun s hs=>nomatch hs)⟩
 case round=>
  clear Qe
  obtain⟨k,D,rfl,hk,rfl,HP,Le,hnp,hnl,hnt,hnb,Uo⟩:=hrel
  by_cases hlt:k<l.length
  ·obtain⟨o,ho⟩:∃o,l[k]? =some o:=⟨_,List.getElem?_eq_getElem hlt⟩
   have hO:=HO.out o (List.mem_of_getElem? ho)
   have hlow:=kS HP.out (List.mem_cons_self ..)
   obtain⟨b,off,cp,hsh,-,-,-,hbl,hc,-⟩:=(HV.out.low hlow).pos (by omega)
   cases hsh
   obtain⟨c0,c1,c2,c3,c4,c5,c6,c7⟩:=vV hlt hc ho
   have hik:=hO.ik
   have AB:=Lib.hid hO
   clear hc ho hO hlow
   obtain⟨kind,a,c,s,bb,vl,vm,vd,L,M,Dd⟩:=o
   obtain⟨la,lc,hsl,-,-⟩:=AB.out.rl.shape
   obtain⟨ma,mc,hsm,-,-⟩:=AB.out.rm.shape
   obtain⟨da,dc,hsd,-,-⟩:=AB.out.rd.shape
   simp only at c0 c1 c2 c3 c4 c5 c6 c7 hik hsl hsm hsd
   subst hsl hsm hsd
   have Aa:Hid (Parts ((aj wr.heap.size (opC ⟨kind,a,c,s,bb,.slice la L.length lc,.slice ma M.length mc,.slice da Dd.length dc,L,M,Dd⟩).toArray dF :: [dY w])++au D) (wr.alloc (.cells (opC ⟨kind,a,c,s,bb,.slice la L.length lc,.slice ma M.length mc,.slice da Dd.length dc,L,M,Dd⟩).toArray dF))):=HP.out.blk _ _
   unfold opC at Aa
   go_upto_region 5 with(fail)
   generalize wr.heap.size=nb at *
   generalize wr.alloc (.cells (List.toArray [.int .i64 kind,.int .i64 a,.int .i64 c,.string s,.string bb,.slice la L.length lc,.slice ma M.length mc,.slice da Dd.length dc]) 67)=W1 at *
   have hob:aS W1 nb (List.toArray [.int .i64 kind,.int .i64 a,.int .i64 c,.string s,.string bb,.slice la L.length lc,.slice ma M.length mc,.slice da Dd.length dc]) dF:=Aa.out.head
   have d0:=hob.cell 0
   have d1:=hob.cell 1
   have d2:=hob.cell 2
   have d3:=hob.cell 3
   have d4:=hob.cell 4
   have d5:=hob.cell 5
   have d6:=hob.cell 6
   have d7:=hob.cell 7
   simp only[List.getElem?_toArray,List.getElem?_cons_zero,List.getElem?_cons_succ] at d0 d1 d2 d3 d4 d5 d6 d7
   clear hob c0 c1 c2 c3 c4 c5 c6 c7 HP
   have iC:Hid (Calls Tryz.prog 32 #[pv D.b,.agg (opC ⟨kind,a,c,s,bb,.slice la L.length lc,.slice ma M.length mc,.slice da Dd.length dc,L,M,Dd⟩).toArray] W1 (iW (aj nb (List.toArray [.int .i64 kind,.int .i64 a,.int .i64 c,.string s,.string bb,.slice la L.length lc,.slice ma M.length mc,.slice da Dd.length dc]) dF :: [dY w]) D)):=
    FQ (W0:=w) ⟨Aa.out,by simp,AB.out,HT.out,by omega,by omega,by omega⟩ (by omega) (fun s hs=>Nat.le_trans (Uo.out s hs) (by decide))
   rw[Le.out] at iC
   unfold pv opC at iC
   go_wp2_with fail
   refine(nC kind W1 hik.1 hik.2).mono ?_
   rintro e w2 ⟨rfl,rfl⟩
   obtain⟨sk,hsk⟩:∃sk:Int,(if kind≤5 then (3:Int) else 4)=sk:=⟨_,rfl⟩
   have hs4:sk≤4:=by rw[←hsk];split <;> decide
   have hs3:decide (max (4:Int) 3<sk)=false:=decide_eq_false (by rw[show max (4:Int) 3=4 from rfl];omega)
   rw[hsk]
   clear hsk hs4
   go_wp2_with fail
   refine(nC 6 W1 (by decide) (by decide)).mono ?_
   rintro e w2 ⟨rfl,rfl⟩
   rw[if_neg (by decide:¬(6:Int)≤5)]
   go_upto_region 6 with(fail)
   go_cut [8] (fun hv wx=>(∃g,hv=.bool g)∧W1=wx)
   case first=>
    clear iC
    obtain⟨g1,hg1⟩:∃g,(kind==6)=g:=⟨_,rfl⟩
    cases g1 <;> (go_wp2_with fail;go_meet;exact⟨⟨_,rfl⟩,rfl⟩)
   case rest=>
    obtain⟨⟨g,rfl⟩,rfl⟩:=hcut
    go_wp2_with fail
    refine iC.out.mono ?_
    rintro e w3 ⟨rfl,D',hn,hp3⟩
    have lQ:Hid (Parts ([dY w]++au D') w3):=hp3.tail
    have Gm:Hid (D'.b=b0):=hn.b.trans Le.out
    have Ll:D'.ps.length≤k+1:=by have:=hn.ps;omega
    have Lm:D'.ls.length≤k+1:=by have:=hn.ls;omega
    have Lp:D'.ts.length≤k+1:=by have:=hn.ts;omega
    have XY:D'.bs.length≤k+1:=by have:=hn.bs;omega
    have XZ:Hid (∀s∈D'.bs,s.length≤1000000):=fun s hs=>by
     rcases hn.bt s hs with h1|h1
     ·exact Uo.out s h1
     ·exact h1
    clear hn hp3 iC Aa d0 d1 d2 d3 d4 d5 d6 d7
    go_wp2_with fail
    go_roundg (l.length-(k+1))
    case measure=>omega
    case rel=>exact⟨k+1,D',rfl,by omega,by go_num,lQ,Gm,Ll,Lm,Lp,XY,XZ⟩
  ·go_wp2_with fail
   go_ret
   exact⟨rfl,kS HP.out (List.mem_cons_self ..)⟩
theorem upto7_any(l:List xK)(v:Value)(w:World)(hT:Tabs w)(hv:Rd w 8 v l.length (Cb l))(ho:∀o∈l,uZ w o)(hl:l.length≤200000):
 Calls Tryz.prog 15 #[v,.int .i64 7] w fun e w'=>e=.returned (.int .i64 (-1))∧Below w.heap.size w w':=by
 obtain⟨va,vc,rfl,hc1,hc2⟩:=hv.shape
 unfold maxLen at hc2
 have HV:=Lib.hid hv
 have HO:=Lib.hid ho
 have HT:=Lib.hid hT
 have Qe:=Lib.hid (rP w)
 clear hv ho hT
 go_enter Tryz.func15,Tryz.ntmps15
 go_upto_region 2 with(fail)
 generalize hbe:w.heap.size=b0 at *
 generalize w.alloc (.cells #[.slice none 0 0,.slice none 0 0,.slice none 0 0,.slice none 0 0,.bool false] 73)=w1 at *
 have HBE:=Lib.hid hbe
 clear hbe
 go_wp2_with fail
 go_loopg [13] l.length (fun gk iv wr=>∃(k:Nat) (D:LD),gk=l.length-k∧k≤l.length∧iv=.int .i64 k∧Hid (Parts ([dY w]++au D) wr)∧Hid (D.b=b0)∧D.ps.length≤k∧D.ls.length≤k∧D.ts.length≤k∧D.bs.length≤k∧Hid (∀s∈D.bs,s.length≤1000000))
 case atStart=>exact⟨0,AO b0,rfl,Nat.zero_le _,rfl,Qe,rfl,Nat.le_refl _,Nat.le_refl _,Nat.le_refl _,Nat.le_refl _,(fun s hs=>nomatch hs)⟩
 case round=>
  clear Qe
  obtain⟨k,D,rfl,hk,rfl,HP,Le,hnp,hnl,hnt,hnb,Uo⟩:=hrel
  by_cases hlt:k<l.length
  ·obtain⟨o,ho⟩:∃o,l[k]? =some o:=⟨_,List.getElem?_eq_getElem hlt⟩
   have hO:=HO.out o (List.mem_of_getElem? ho)
   have hlow:=kS HP.out (List.mem_cons_self ..)
   obtain⟨b,off,cp,hsh,-,-,-,hbl,hc,-⟩:=(HV.out.low hlow).pos (by omega)
   cases hsh
   obtain⟨c0,c1,c2,c3,c4,c5,c6,c7⟩:=vV hlt hc ho
   have hik:=hO.ik
   have AB:=Lib.hid hO
   clear hc ho hO hlow
   obtain⟨kind,a,c,s,bb,vl,vm,vd,L,M,Dd⟩:=o
   obtain⟨la,lc,hsl,-,-⟩:=AB.out.rl.shape
   obtain⟨ma,mc,hsm,-,-⟩:=AB.out.rm.shape
   obtain⟨da,dc,hsd,-,-⟩:=AB.out.rd.shape
   simp only at c0 c1 c2 c3 c4 c5 c6 c7 hik hsl hsm hsd
   subst hsl hsm hsd
   have Aa:Hid (Parts ((aj wr.heap.size (opC ⟨kind,a,c,s,bb,.slice la L.length lc,.slice ma M.length mc,.slice da Dd.length dc,L,M,Dd⟩).toArray dF :: [dY w])++au D) (wr.alloc (.cells (opC ⟨kind,a,c,s,bb,.slice la L.length lc,.slice ma M.length mc,.slice da Dd.length dc,L,M,Dd⟩).toArray dF))):=HP.out.blk _ _
   unfold opC at Aa
   go_upto_region 5 with(fail)
   generalize wr.heap.size=nb at *
   generalize wr.alloc (.cells (List.toArray [.int .i64 kind,.int .i64 a,.int .i64 c,.string s,.string bb,.slice la L.length lc,.slice ma M.length mc,.slice da Dd.length dc]) 67)=W1 at *
   have hob:aS W1 nb (List.toArray [.int .i64 kind,.int .i64 a,.int .i64 c,.string s,.string bb,.slice la L.length lc,.slice ma M.length mc,.slice da Dd.length dc]) dF:=Aa.out.head
   have d0:=hob.cell 0
   have d1:=hob.cell 1
   have d2:=hob.cell 2
   have d3:=hob.cell 3
   have d4:=hob.cell 4
   have d5:=hob.cell 5
   have d6:=hob.cell 6
   have d7:=hob.cell 7
   simp only[List.getElem?_toArray,List.getElem?_cons_zero,List.getElem?_cons_succ] at d0 d1 d2 d3 d4 d5 d6 d7
   clear hob c0 c1 c2 c3 c4 c5 c6 c7 HP
   have iC:Hid (Calls Tryz.prog 32 #[pv D.b,.agg (opC ⟨kind,a,c,s,bb,.slice la L.length lc,.slice ma M.length mc,.slice da Dd.length dc,L,M,Dd⟩).toArray] W1 (iW (aj nb (List.toArray [.int .i64 kind,.int .i64 a,.int .i64 c,.string s,.string bb,.slice la L.length lc,.slice ma M.length mc,.slice da Dd.length dc]) dF :: [dY w]) D)):=
    FQ (W0:=w) ⟨Aa.out,by simp,AB.out,HT.out,by omega,by omega,by omega⟩ (by omega) (fun s hs=>Nat.le_trans (Uo.out s hs) (by decide))
   rw[Le.out] at iC
   unfold pv opC at iC
   go_wp2_with fail
   refine(nC kind W1 hik.1 hik.2).mono ?_
   rintro e w2 ⟨rfl,rfl⟩
   obtain⟨sk,hsk⟩:∃sk:Int,(if kind≤5 then (3:Int) else 4)=sk:=⟨_,rfl⟩
   have hs4:sk≤4:=by rw[←hsk];split <;> decide
   have hs3:decide (max (4:Int) 3<sk)=false:=decide_eq_false (by rw[show max (4:Int) 3=4 from rfl];omega)
   rw[hsk]
   clear hsk hs4
   go_wp2_with fail
   refine(nC 7 W1 (by decide) (by decide)).mono ?_
   rintro e w2 ⟨rfl,rfl⟩
   rw[if_neg (by decide:¬(7:Int)≤5)]
   go_upto_region 6 with(fail)
   go_cut [8] (fun hv wx=>(∃g,hv=.bool g)∧W1=wx)
   case first=>
    clear iC
    obtain⟨g1,hg1⟩:∃g,(kind==7)=g:=⟨_,rfl⟩
    cases g1 <;> (go_wp2_with fail;go_meet;exact⟨⟨_,rfl⟩,rfl⟩)
   case rest=>
    obtain⟨⟨g,rfl⟩,rfl⟩:=hcut
    go_wp2_with fail
    refine iC.out.mono ?_
    rintro e w3 ⟨rfl,D',hn,hp3⟩
    have lQ:Hid (Parts ([dY w]++au D') w3):=hp3.tail
    have Gm:Hid (D'.b=b0):=hn.b.trans Le.out
    have Ll:D'.ps.length≤k+1:=by have:=hn.ps;omega
    have Lm:D'.ls.length≤k+1:=by have:=hn.ls;omega
    have Lp:D'.ts.length≤k+1:=by have:=hn.ts;omega
    have XY:D'.bs.length≤k+1:=by have:=hn.bs;omega
    have XZ:Hid (∀s∈D'.bs,s.length≤1000000):=fun s hs=>by
     rcases hn.bt s hs with h1|h1
     ·exact Uo.out s h1
     ·exact h1
    clear hn hp3 iC Aa d0 d1 d2 d3 d4 d5 d6 d7
    go_wp2_with fail
    go_roundg (l.length-(k+1))
    case measure=>omega
    case rel=>exact⟨k+1,D',rfl,by omega,by go_num,lQ,Gm,Ll,Lm,Lp,XY,XZ⟩
  ·go_wp2_with fail
   go_ret
   exact⟨rfl,kS HP.out (List.mem_cons_self ..)⟩
theorem upto0_any(l:List xK)(v:Value)(w:World)(hT:Tabs w)(hv:Rd w 8 v l.length (Cb l))(ho:∀o∈l,uZ w o)(hl:l.length≤200000):
 Calls Tryz.prog 15 #[v,.int .i64 0] w fun e w'=>e=.returned (.int .i64 (-1))∧Below w.heap.size w w':=by
 obtain⟨va,vc,rfl,hc1,hc2⟩:=hv.shape
 unfold maxLen at hc2
 have HV:=Lib.hid hv
 have HO:=Lib.hid ho
 have HT:=Lib.hid hT
 have Qe:=Lib.hid (rP w)
 clear hv ho hT
 go_enter Tryz.func15,Tryz.ntmps15
 go_upto_region 2 with(fail)
 generalize hbe:w.heap.size=b0 at *
 generalize w.alloc (.cells #[.slice none 0 0,.slice none 0 0,.slice none 0 0,.slice none 0 0,.bool false] 73)=w1 at *
 have HBE:=Lib.hid hbe
 clear hbe
 go_wp2_with fail
 go_loopg [13] l.length (fun gk iv wr=>∃(k:Nat) (D:LD),gk=l.length-k∧k≤l.length∧iv=.int .i64 k∧Hid (Parts ([dY w]++au D) wr)∧Hid (D.b=b0)∧D.ps.length≤k∧D.ls.length≤k∧D.ts.length≤k∧D.bs.length≤k∧Hid (∀s∈D.bs,s.length≤1000000))
 case atStart=>exact⟨0,AO b0,rfl,Nat.zero_le _,rfl,Qe,rfl,Nat.le_refl _,Nat.le_refl _,Nat.le_refl _,Nat.le_refl _,(fun s hs=>nomatch hs)⟩
 case round=>
  clear Qe
  obtain⟨k,D,rfl,hk,rfl,HP,Le,hnp,hnl,hnt,hnb,Uo⟩:=hrel
  by_cases hlt:k<l.length
  ·obtain⟨o,ho⟩:∃o,l[k]? =some o:=⟨_,List.getElem?_eq_getElem hlt⟩
   have hO:=HO.out o (List.mem_of_getElem? ho)
   have hlow:=kS HP.out (List.mem_cons_self ..)
   obtain⟨b,off,cp,hsh,-,-,-,hbl,hc,-⟩:=(HV.out.low hlow).pos (by omega)
   cases hsh
   obtain⟨c0,c1,c2,c3,c4,c5,c6,c7⟩:=vV hlt hc ho
   have hik:=hO.ik
   have AB:=Lib.hid hO
   clear hc ho hO hlow
   obtain⟨kind,a,c,s,bb,vl,vm,vd,L,M,Dd⟩:=o
   obtain⟨la,lc,hsl,-,-⟩:=AB.out.rl.shape
   obtain⟨ma,mc,hsm,-,-⟩:=AB.out.rm.shape
   obtain⟨da,dc,hsd,-,-⟩:=AB.out.rd.shape
   simp only at c0 c1 c2 c3 c4 c5 c6 c7 hik hsl hsm hsd
   subst hsl hsm hsd
   have Aa:Hid (Parts ((aj wr.heap.size (opC ⟨kind,a,c,s,bb,.slice la L.length lc,.slice ma M.length mc,.slice da Dd.length dc,L,M,Dd⟩).toArray dF :: [dY w])++au D) (wr.alloc (.cells (opC ⟨kind,a,c,s,bb,.slice la L.length lc,.slice ma M.length mc,.slice da Dd.length dc,L,M,Dd⟩).toArray dF))):=HP.out.blk _ _
   unfold opC at Aa
   go_upto_region 5 with(fail)
   generalize wr.heap.size=nb at *
   generalize wr.alloc (.cells (List.toArray [.int .i64 kind,.int .i64 a,.int .i64 c,.string s,.string bb,.slice la L.length lc,.slice ma M.length mc,.slice da Dd.length dc]) 67)=W1 at *
   have hob:aS W1 nb (List.toArray [.int .i64 kind,.int .i64 a,.int .i64 c,.string s,.string bb,.slice la L.length lc,.slice ma M.length mc,.slice da Dd.length dc]) dF:=Aa.out.head
   have d0:=hob.cell 0
   have d1:=hob.cell 1
   have d2:=hob.cell 2
   have d3:=hob.cell 3
   have d4:=hob.cell 4
   have d5:=hob.cell 5
   have d6:=hob.cell 6
   have d7:=hob.cell 7
   simp only[List.getElem?_toArray,List.getElem?_cons_zero,List.getElem?_cons_succ] at d0 d1 d2 d3 d4 d5 d6 d7
   clear hob c0 c1 c2 c3 c4 c5 c6 c7 HP
   have iC:Hid (Calls Tryz.prog 32 #[pv D.b,.agg (opC ⟨kind,a,c,s,bb,.slice la L.length lc,.slice ma M.length mc,.slice da Dd.length dc,L,M,Dd⟩).toArray] W1 (iW (aj nb (List.toArray [.int .i64 kind,.int .i64 a,.int .i64 c,.string s,.string bb,.slice la L.length lc,.slice ma M.length mc,.slice da Dd.length dc]) dF :: [dY w]) D)):=
    FQ (W0:=w) ⟨Aa.out,by simp,AB.out,HT.out,by omega,by omega,by omega⟩ (by omega) (fun s hs=>Nat.le_trans (Uo.out s hs) (by decide))
   rw[Le.out] at iC
   unfold pv opC at iC
   go_upto_region 6 with(fail)
   go_cut [8] (fun hv wx=>(∃g,hv=.bool g)∧W1=wx)
   case first=>
    clear iC
    go_wp2_with fail
    go_meet
    exact⟨⟨_,rfl⟩,rfl⟩
   case rest=>
    obtain⟨⟨g,rfl⟩,rfl⟩:=hcut
    go_wp2_with fail
    refine iC.out.mono ?_
    rintro e w3 ⟨rfl,D',hn,hp3⟩
    have lQ:Hid (Parts ([dY w]++au D') w3):=hp3.tail
    have Gm:Hid (D'.b=b0):=hn.b.trans Le.out
    have Ll:D'.ps.length≤k+1:=by have:=hn.ps;omega
    have Lm:D'.ls.length≤k+1:=by have:=hn.ls;omega
    have Lp:D'.ts.length≤k+1:=by have:=hn.ts;omega
    have XY:D'.bs.length≤k+1:=by have:=hn.bs;omega
    have XZ:Hid (∀s∈D'.bs,s.length≤1000000):=fun s hs=>by
     rcases hn.bt s hs with h1|h1
     ·exact Uo.out s h1
     ·exact h1
    clear hn hp3 iC Aa d0 d1 d2 d3 d4 d5 d6 d7
    have HL:=Lib.hid (Hf [dY w] D' w3 lQ.out (by omega) (by omega))
    rw[Gm.out] at HL
    unfold pv at HL
    go_wp2_with fail
    refine HL.out.mono ?_
    rintro e w4 ⟨rfl,hk4⟩
    have zZ:=Lib.hid (lQ.out.non hk4)
    clear hk4 HL lQ
    go_wp2_with fail
    go_roundg (l.length-(k+1))
    case measure=>omega
    case rel=>exact⟨k+1,D',rfl,by omega,by go_num,zZ,Gm,Ll,Lm,Lp,XY,XZ⟩
  ·go_wp2_with fail
   go_ret
   exact⟨rfl,kS HP.out (List.mem_cons_self ..)⟩
theorem exports_walk(v:Value)(l:List xK)(w:World)(hT:Tabs w)(hv:Rd w 8 v l.length (Cb l))(ho:∀o∈l,uZ w o)(hl:l.length≤200000):
 Calls Tryz.prog 7 #[v] w fun e w'=>e=.returned (.bool true)∧Below w.heap.size w w':=by
 obtain⟨va,vc,rfl,hc1,hc2⟩:=hv.shape
 have HV:=Lib.hid hv
 have HO:=Lib.hid ho
 have HT:=Lib.hid hT
 clear hv ho hT
 go_enter Tryz.func7,Tryz.ntmps7
 go_wp2_with fail
 refine(xk l _ w HV.out HO.out hl).mono ?_
 rintro e w1 ⟨⟨g,rfl⟩,hk⟩
 have hb:=hk.below (Nat.le_refl _) (fun _ _ h=>h)
 have HB:=Lib.hid hb
 have HU:=Lib.hid (upto6_any l _ w1 (HT.out.keeps hk) (HV.out.low hb) (fun o ho=>(HO.out o ho).low hb) hl)
 clear hk hb
 cases g
 ·go_wp2_with fail
  go_ret
  exact⟨rfl,HB.out⟩
 ·go_wp2_with fail
  refine HU.out.mono ?_
  rintro e w2 ⟨rfl,hb2⟩
  have HB2:Hid (Below w.heap.size w w2):=⟨hb2.os.trans HB.out.os,hb2.tape.trans HB.out.tape,hb2.output.trans HB.out.output,Nat.le_trans HB.out.size hb2.size,fun j hj=>(hb2.block j (Nat.lt_of_lt_of_le hj HB.out.size)).trans (HB.out.block j hj)⟩
  clear hb2
  go_wp2_with fail
  go_ret
  exact⟨rfl,HB2.out⟩
theorem imports_walk(v:Value)(l:List xK)(w:World)(hT:Tabs w)(hv:Rd w 8 v l.length (Cb l))(ho:∀o∈l,uZ w o)(hl:l.length≤200000):
 Calls Tryz.prog 8 #[v] w fun e w'=>e=.returned (.bool true)∧Below w.heap.size w w':=by
 obtain⟨va,vc,rfl,hc1,hc2⟩:=hv.shape
 have HV:=Lib.hid hv
 have HO:=Lib.hid ho
 have HT:=Lib.hid hT
 clear hv ho hT
 go_enter Tryz.func8,Tryz.ntmps8
 go_wp2_with fail
 refine(xk l _ w HV.out HO.out hl).mono ?_
 rintro e w1 ⟨⟨g,rfl⟩,hk⟩
 have hb:=hk.below (Nat.le_refl _) (fun _ _ h=>h)
 have HB:=Lib.hid hb
 have HU:=Lib.hid (upto7_any l _ w1 (HT.out.keeps hk) (HV.out.low hb) (fun o ho=>(HO.out o ho).low hb) hl)
 clear hk hb
 cases g
 ·go_wp2_with fail
  go_ret
  exact⟨rfl,HB.out⟩
 ·go_wp2_with fail
  refine HU.out.mono ?_
  rintro e w2 ⟨rfl,hb2⟩
  have HB2:Hid (Below w.heap.size w w2):=⟨hb2.os.trans HB.out.os,hb2.tape.trans HB.out.tape,hb2.output.trans HB.out.output,Nat.le_trans HB.out.size hb2.size,fun j hj=>(hb2.block j (Nat.lt_of_lt_of_le hj HB.out.size)).trans (HB.out.block j hj)⟩
  clear hb2
  go_wp2_with fail
  go_ret
  exact⟨rfl,HB2.out⟩
theorem all_walk(v:Value)(l:List xK)(w:World)(hT:Tabs w)(hv:Rd w 8 v l.length (Cb l))(ho:∀o∈l,uZ w o)(hl:l.length≤200000):
 Calls Tryz.prog 10 #[v] w fun e w'=>e=.returned (.bool true)∧Below w.heap.size w w':=by
 obtain⟨va,vc,rfl,hc1,hc2⟩:=hv.shape
 have HV:=Lib.hid hv
 have HO:=Lib.hid ho
 have HT:=Lib.hid hT
 clear hv ho hT
 go_enter Tryz.func10,Tryz.ntmps10
 go_wp2_with fail
 refine(xk l _ w HV.out HO.out hl).mono ?_
 rintro e w1 ⟨⟨g,rfl⟩,hk⟩
 have hb:=hk.below (Nat.le_refl _) (fun _ _ h=>h)
 have HB:=Lib.hid hb
 have HU:=Lib.hid (upto0_any l _ w1 (HT.out.keeps hk) (HV.out.low hb) (fun o ho=>(HO.out o ho).low hb) hl)
 clear hk hb
 cases g
 ·go_wp2_with fail
  go_ret
  exact⟨rfl,HB.out⟩
 ·go_wp2_with fail
  refine HU.out.mono ?_
  rintro e w2 ⟨rfl,hb2⟩
  have HB2:Hid (Below w.heap.size w w2):=⟨hb2.os.trans HB.out.os,hb2.tape.trans HB.out.tape,hb2.output.trans HB.out.output,Nat.le_trans HB.out.size hb2.size,fun j hj=>(hb2.block j (Nat.lt_of_lt_of_le hj HB.out.size)).trans (HB.out.block j hj)⟩
  clear hb2
  go_wp2_with fail
  go_ret
  exact⟨rfl,HB2.out⟩
end Go.Proofs.YtdkogijdfgfpeaaGreatDoor
