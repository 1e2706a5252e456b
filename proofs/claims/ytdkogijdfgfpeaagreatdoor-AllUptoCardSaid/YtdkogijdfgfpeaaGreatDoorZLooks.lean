/- (*narlaw.World).looks: what the caller has still reads as it was written. -/
import Derived.Test.YtdkogijdfgfpeaaGreatDoorZLState
import Derived.Test.YtdkogijdfgfpeaaGreatDoorZGet
import Derived.Test.YtdkogijdfgfpeaaGreatDoorZStep
import Derived.Test.YtdkogijdfgfpeaaGreatDoorZPackw
import Derived.Test.YtdkogijdfgfpeaaGreatDoorZMem
import Derived.Test.YtdkogijdfgfpeaaGreatDoorZCome
set_option linter.unusedVariables false
namespace Go.Proofs.YtdkogijdfgfpeaaGreatDoor
open Go Go.RowKit
set_option maxHeartbeats 6400000
set_option maxRecDepth 100000
theorem Hf(X:List Part)(D:LD)(w:World)(h:Parts (X++au D) w)(hnl:D.ls.length≤1000000)(hnt:D.ts.length≤1000000):
 Calls Tryz.prog 33 #[pv D.b] w fun e w'=>e=.returned (.bool true)∧Keeps Non w w':=by
 have HP:=Lib.hid h
 have hb:=dR h
 obtain⟨la,lc,hlv,hc3,hc4⟩:=(I9 h).shape
 obtain⟨ta,tc,htv,hc5,hc6⟩:=(Ja h).shape
 have c2:w.cell? ⟨D.b,2,none⟩=some (.slice la D.ls.length lc):=by rw[←hlv];exact hb.cell 2
 unfold maxLen at hc4 hc6
 have U8:=Lib.hid hlv
 have HTV:=Lib.hid htv
 have HB:=Lib.hid hb
 clear h hb hlv htv
 unfold pv
 go_enter Tryz.func33,Tryz.ntmps33
 go_wp2_with fail
 go_loopg [16] D.ls.length (fun gk iv wr=>∃k:Nat,gk=D.ls.length-k∧k≤D.ls.length∧iv=.int .i64 k∧Hid (Keeps Non w wr))
 case atStart=>exact⟨0,rfl,Nat.zero_le _,rfl,Keeps.refl _ _⟩
 case round=>
  obtain⟨k,rfl,hk,rfl,HK⟩:=hrel
  by_cases hlt:k<D.ls.length
  ·have hls:=I9 (HP.out.non HK.out)
   rw[U8.out] at hls
   obtain⟨b',o',c',hsh,-,-,-,kZ,hcc,hfz⟩:=hls.pos (by omega)
   cases hsh
   obtain⟨⟨v,m⟩,hx⟩:∃x,D.ls[k]? =some x:=⟨_,List.getElem?_eq_getElem hlt⟩
   have d0:wr.cell? ⟨b',o'+k,none⟩=some v:=(hcc k (by omega)).trans (by simp[hx])
   have hsl:Sl w 0 iw 1 v m (List.replicate m (sv (gV k))):=HP.out.all (vS k (v,m)) (List.mem_append_right _ (List.mem_append_right _ (List.mem_append_right _ (List.mem_append_left _ (by have:=Bz D.ls 0 k _ hx;rwa [Nat.zero_add] at this)))))
   obtain⟨va,vc,rfl,hm1,hm2⟩:=hsl.shape
   unfold maxLen at hm2
   have HSL:=Lib.hid hsl
   clear hcc hfz hx hsl hls
   go_wp2_with fail
   go_loopg [23] m (fun gk iv wq=>∃j:Nat,gk=m-j∧j≤m∧iv=.int .i64 j∧Hid (Keeps Non w wq))
   case atStart=>exact⟨0,rfl,Nat.zero_le _,rfl,HK⟩
   case round=>
    clear HK
    obtain⟨j,rfl,hj,rfl,HK⟩:=hrel
    by_cases hlj:j<m
    ·have hsl:Sl wr 0 iw 1 (.slice va m vc) m (List.replicate m (sv (gV k))):=HSL.out.keep fun b c _ _ hbk=>hbk.keeps HK.out fun h=>h
     obtain⟨bb,oo,cc',hsh,-,-,-,Lj,hcc,hfz⟩:=hsl.pos (by omega)
     cases hsh
     have e0:wr.cell? ⟨bb,oo+j,none⟩=some (sv (gV k)):=(hcc j (by omega)).trans (by simp[hlj])
     unfold sv at e0
     clear hcc hfz hsl
     go_wp2_with fail
     refine(zh k wr (by omega)).mono ?_
     rintro e w2 ⟨rfl,hk2⟩
     have iP:=Lib.hid (HK.out.trans hk2 fun _ h=>h.elim)
     clear hk2
     unfold sv
     go_wp2_with fail
     go_roundg (m-(j+1))
     case measure=>omega
     case rel=>exact⟨j+1,rfl,by omega,by go_num,iP⟩
    ·go_wp2_with fail
     go_roundg (D.ls.length-(k+1))
     case measure=>omega
     case rel=>exact⟨k+1,rfl,by omega,by go_num,HK⟩
  ·have hb:=HB.out.keeps HK.out fun h=>h
   have c3:wr.cell? ⟨D.b,3,none⟩=some (.slice ta D.ts.length tc):=by rw[←HTV.out];exact hb.cell 3
   clear hb
   go_wp2_with fail
   clear c3
   have pO:=HK
   go_loopg [38] D.ts.length (fun gk iv wt=>∃i:Nat,gk=D.ts.length-i∧i≤D.ts.length∧iv=.int .i64 i∧Hid (Keeps Non w wt))
   case atStart=>exact⟨0,rfl,Nat.zero_le _,rfl,HK⟩
   case round=>
    clear HK pO
    obtain⟨i,rfl,hi,rfl,HK⟩:=hrel
    by_cases hli:i<D.ts.length
    ·have hts:=Ja (HP.out.non HK.out)
     rw[HTV.out] at hts
     obtain⟨b',o',c',hsh,-,-,-,kZ,hcc,hfz⟩:=hts.pos (by omega)
     cases hsh
     obtain⟨⟨v,m⟩,hx⟩:∃x,D.ts[i]? =some x:=⟨_,List.getElem?_eq_getElem hli⟩
     have d0:wr.cell? ⟨b',o'+i,none⟩=some v:=(hcc i (by omega)).trans (by simp[hx])
     have hsl:Sl w 0 uQ 3 v m (ak (List.replicate m ⟨gV i,0,[]⟩)):=HP.out.all (uw i (v,m)) (List.mem_append_right _ (List.mem_append_right _ (List.mem_append_right _ (List.mem_append_right _ (by have:=BA D.ts 0 i _ hx;rwa [Nat.zero_add] at this)))))
     obtain⟨va,vc,rfl,hm1,hm2⟩:=hsl.shape
     unfold maxLen at hm2
     have HSL:=Lib.hid hsl
     clear hcc hfz hx hsl hts
     go_wp2_with fail
     go_loopg [45] m (fun gk iv wq=>∃j:Nat,gk=m-j∧j≤m∧iv=.int .i64 j∧Hid (Keeps Non w wq))
     case atStart=>exact⟨0,rfl,Nat.zero_le _,rfl,HK⟩
     case round=>
      clear HK
      obtain⟨j,rfl,hj,rfl,HK⟩:=hrel
      by_cases hlj:j<m
      ·have hsl:Sl wr 0 uQ 3 (.slice va m vc) m (ak (List.replicate m ⟨gV i,0,[]⟩)):=HSL.out.keep fun b c _ _ hbk=>hbk.keeps HK.out fun h=>h
       obtain⟨bb,oo,cc',hsh,-,-,-,Lj,hcc,hfz⟩:=hsl.pos (by omega)
       cases hsh
       have hat:=iJ (List.replicate m (⟨gV i,0,[]⟩:Node)) j (by simpa using hlj)
       simp only[List.getElem_replicate] at hat
       have e0:wr.cell? ⟨bb,oo+j*3,none⟩=some (sv (gV i)):=(hcc _ (by omega)).trans hat.1
       have e1:wr.cell? ⟨bb,oo+j*3+1,none⟩=some (.int .i64 0):=(hcc _ (by omega)).trans hat.2.1
       have e2:wr.cell? ⟨bb,oo+j*3+2,none⟩=some (sv []):=(hcc _ (by omega)).trans hat.2.2
       unfold sv at e0 e2
       clear hcc hfz hsl hat
       have q2:(0:Int)≤(j:Int):=by omega
       have q3:(j:Int)<(m:Int):=by omega
       have q4:IntKind.i64.wrap (j:Int)=(j:Int):=IntWalk.i64_in _ (by omega)
       go_upto_region 17 with(fail)
       have yN:Hid (Keeps Non w (wr.alloc (.cells #[.string ⟨(gV i).toArray⟩,.int .i64 0,.string ⟨[].toArray⟩] 49))):=HK.out.alloc _
       have Rw:Hid (aS (wr.alloc (.cells #[.string ⟨(gV i).toArray⟩,.int .i64 0,.string ⟨[].toArray⟩] 49)) wr.heap.size #[.string ⟨(gV i).toArray⟩,.int .i64 0,.string ⟨[].toArray⟩] 49):=aS.new wr _ _
       generalize wr.heap.size=nb at *
       generalize wr.alloc (.cells #[.string ⟨(gV i).toArray⟩,.int .i64 0,.string ⟨[].toArray⟩] 49)=W1 at *
       have HM:Hid (∀wx,Calls Tryz.prog 71 #[.int .i64 i] wx fun e w'=>e=.returned (sv (gV i))∧Keeps Non wx w'):=fun wx=>zh i wx (by omega)
       have n0:=Rw.out.cell 0
       have n1:=Rw.out.cell 1
       have n2:=Rw.out.cell 2
       simp only[List.getElem?_toArray,List.getElem?_cons_zero,List.getElem?_cons_succ] at n0 n1 n2
       have hc:Keeps Non W1 W1:=Keeps.refl _ _
       go_region_with (go_at_call 71;refine(HM.out _).mono ?_;rintro e w2 ⟨rfl,hk⟩;replace hc:=Keeps.tn hc (by first|exact hk|exact hk.un);clear hk;have n0:=(Rw.out.keeps hc fun h=>h).cell 0;have n1:=(Rw.out.keeps hc fun h=>h).cell 1;have n2:=(Rw.out.keeps hc fun h=>h).cell 2;simp only[List.getElem?_toArray,List.getElem?_cons_zero,List.getElem?_cons_succ] at n0 n1 n2;unfold sv)
       all_goals (
        have iP:=Lib.hid (yN.out.tn hc)
        clear hc n0 n1 n2
        go_wp2_with fail
        go_roundg (m-(j+1))
        case measure=>omega
        case rel=>exact⟨j+1,rfl,by omega,by go_num,by first|exact iP|exact iP.out.drew|exact iP.out.drewN _⟩)
      ·go_wp2_with fail
       go_roundg (D.ts.length-(i+1))
       case measure=>omega
       case rel=>exact⟨i+1,rfl,by omega,by go_num,HK⟩
    ·go_wp2_with fail
     go_ret
     exact⟨rfl,HK.out⟩
def AO(b:Nat):LD:=⟨b,.slice none 0 0,.slice none 0 0,.slice none 0 0,.slice none 0 0,[],[],[],[]⟩
theorem Parts.empty{ps:List Part}{w:World}(h:Parts ps w)(E:TypeId)(size:Nat):Parts (aG E size (.slice none 0 0) 0 [] :: ps) w:=
 h.add (q:=aG E size (.slice none 0 0) 0 []) (Sl.nil w 0 E size) (Keeps.refl _ _) fun j hj=>by cases hj
theorem rP(w:World):Parts ([dY w]++au (AO w.heap.size)) (w.alloc (.cells #[.slice none 0 0,.slice none 0 0,.slice none 0 0,.slice none 0 0,.bool false] x9)):=by
 have h0:Parts [dY w] w:=⟨fun p hp=>by
  simp only[List.mem_cons,List.not_mem_nil,or_false] at hp
  subst hp
  exact(Keeps.refl Non w).below (Nat.le_refl _) (fun _ _ h=>h),List.pairwise_singleton _ _⟩
 have h1:=h0.blk #[.slice none 0 0,.slice none 0 0,.slice none 0 0,.slice none 0 0,.bool false] x9
 have h2:=(((h1.empty ji 2).empty iw 1).empty oH 1).empty uY 1
 exact h2.perm (List.reverse_perm (dY w :: au (AO w.heap.size))).symm
theorem upto_any(l:List xK)(v:Value)(only:Int)(w:World)(hT:Tabs w)(hv:Rd w 8 v l.length (Cb l))(ho:∀o∈l,uZ w o)(hl:l.length≤200000)(hne:only≠0)(h5:only≤5)(hlo: -1≤only):
 Calls Tryz.prog 15 #[v,.int .i64 only] w fun e w'=>e=.returned (.int .i64 (-1))∧Below w.heap.size w w':=by
 obtain⟨va,vc,rfl,hc1,hc2⟩:=hv.shape
 unfold maxLen at hc2
 have HV:=Lib.hid hv
 have HO:=Lib.hid ho
 have HT:=Lib.hid hT
 have Qe:=Lib.hid (rP w)
 have t0:(only==0)=false:=by rw[beq_eq_false_iff_ne];exact hne
 clear hv ho hT
 go_enter Tryz.func15,Tryz.ntmps15
 go_upto_region 2 with(fail)
 generalize hbe:w.heap.size=b0 at *
 generalize w.alloc (.cells #[.slice none 0 0,.slice none 0 0,.slice none 0 0,.slice none 0 0,.bool false] 73)=w1 at *
 have HBE:=Lib.hid hbe
 clear hbe
 go_wp2_with fail
 go_loopg [13] l.length (fun gk iv wr=>∃(k:Nat) (D:LD),gk=l.length-k∧k≤l.length∧iv=.int .i64 k∧Hid (Parts ([dY w]++au D) wr)∧Hid (D.b=b0)∧D.ps.length≤k∧D.ls.length≤k∧D.ts.length≤k)
 case atStart=>exact⟨0,AO b0,rfl,Nat.zero_le _,rfl,Qe,rfl,Nat.le_refl _,Nat.le_refl _,Nat.le_refl _⟩
 case round=>
  clear Qe
  obtain⟨k,D,rfl,hk,rfl,HP,Le,hnp,hnl,hnt⟩:=hrel
  by_cases hlt:k<l.length
  ·obtain⟨o,ho⟩:∃o,l[k]? =some o:=⟨_,List.getElem?_eq_getElem hlt⟩
   have hO:=HO.out o (List.mem_of_getElem? ho)
   have hlow:=kS HP.out (List.mem_cons_self ..)
   obtain⟨b,off,cp,hsh,-,-,-,hbl,hc,-⟩:=(HV.out.low hlow).pos (by omega)
   cases hsh
   obtain⟨c0,c1,c2,c3,c4,c5,c6,c7⟩:=vV hlt hc ho
   have hik:=hO.ik
   have AB:=Lib.hid hO
   clear hc ho hO hlow
   obtain⟨kind,a,c,s,bb,vl,vm,vd,L,M,Dd⟩:=o
   obtain⟨la,lc,hsl,-,-⟩:=AB.out.rl.shape
   obtain⟨ma,mc,hsm,-,-⟩:=AB.out.rm.shape
   obtain⟨da,dc,hsd,-,-⟩:=AB.out.rd.shape
   simp only at c0 c1 c2 c3 c4 c5 c6 c7 hik hsl hsm hsd
   subst hsl hsm hsd
   have Aa:Hid (Parts ((aj wr.heap.size (opC ⟨kind,a,c,s,bb,.slice la L.length lc,.slice ma M.length mc,.slice da Dd.length dc,L,M,Dd⟩).toArray dF :: [dY w])++au D) (wr.alloc (.cells (opC ⟨kind,a,c,s,bb,.slice la L.length lc,.slice ma M.length mc,.slice da Dd.length dc,L,M,Dd⟩).toArray dF))):=HP.out.blk _ _
   unfold opC at Aa
   go_upto_region 5 with(fail)
   generalize wr.heap.size=nb at *
   generalize wr.alloc (.cells (List.toArray [.int .i64 kind,.int .i64 a,.int .i64 c,.string s,.string bb,.slice la L.length lc,.slice ma M.length mc,.slice da Dd.length dc]) 67)=W1 at *
   have hob:aS W1 nb (List.toArray [.int .i64 kind,.int .i64 a,.int .i64 c,.string s,.string bb,.slice la L.length lc,.slice ma M.length mc,.slice da Dd.length dc]) dF:=Aa.out.head
   have d0:=hob.cell 0
   have d1:=hob.cell 1
   have d2:=hob.cell 2
   have d3:=hob.cell 3
   have d4:=hob.cell 4
   have d5:=hob.cell 5
   have d6:=hob.cell 6
   have d7:=hob.cell 7
   simp only[List.getElem?_toArray,List.getElem?_cons_zero,List.getElem?_cons_succ] at d0 d1 d2 d3 d4 d5 d6 d7
   clear hob c0 c1 c2 c3 c4 c5 c6 c7 HP
   by_cases h5k:kind≤5
   ·have iC:Hid (Calls Tryz.prog 32 #[pv D.b,.agg (opC ⟨kind,a,c,s,bb,.slice la L.length lc,.slice ma M.length mc,.slice da Dd.length dc,L,M,Dd⟩).toArray] W1 (iW (aj nb (List.toArray [.int .i64 kind,.int .i64 a,.int .i64 c,.string s,.string bb,.slice la L.length lc,.slice ma M.length mc,.slice da Dd.length dc]) dF :: [dY w]) D)):=
     Lh (W0:=w) ⟨Aa.out,by simp,AB.out,HT.out,by omega,by omega,by omega⟩ h5k
    rw[Le.out] at iC
    unfold pv opC at iC
    go_wp2_with fail
    refine(nC kind W1 hik.1 hik.2).mono ?_
    rintro e w2 ⟨rfl,rfl⟩
    rw[if_pos h5k]
    go_wp2_with fail
    refine(nC only W1 (by omega) (by omega)).mono ?_
    rintro e w2 ⟨rfl,rfl⟩
    rw[if_pos h5]
    go_upto_region 6 with(fail)
    go_cut [8] (fun hv wx=>(∃g,hv=.bool g)∧W1=wx)
    case first=>
     clear iC
     obtain⟨g1,hg1⟩:∃g,(kind==only)=g:=⟨_,rfl⟩
     obtain⟨g2,hg2⟩:∃g,(only == -1)=g:=⟨_,rfl⟩
     obtain⟨g3,hg3⟩:∃g,(kind==3)=g:=⟨_,rfl⟩
     obtain⟨g4,hg4⟩:∃g,(kind==4)=g:=⟨_,rfl⟩
     obtain⟨g5,hg5⟩:∃g,(kind==5)=g:=⟨_,rfl⟩
     cases g1 <;> cases g2 <;> cases g3 <;> cases g4 <;> cases g5 <;> (go_wp2_with fail;go_meet;exact⟨⟨_,rfl⟩,rfl⟩)
    case rest=>
     obtain⟨⟨g,rfl⟩,rfl⟩:=hcut
     go_wp2_with fail
     refine iC.out.mono ?_
     rintro e w3 ⟨rfl,D',hn,hp3⟩
     have lQ:Hid (Parts ([dY w]++au D') w3):=hp3.tail
     have Gm:Hid (D'.b=b0):=hn.b.trans Le.out
     have Ll:D'.ps.length≤k+1:=by have:=hn.ps;omega
     have Lm:D'.ls.length≤k+1:=by have:=hn.ls;omega
     have Lp:D'.ts.length≤k+1:=by have:=hn.ts;omega
     clear hn hp3 iC Aa d0 d1 d2 d3 d4 d5 d6 d7
     by_cases hm:only= -1
     ·subst hm
      have HL:=Lib.hid (Hf [dY w] D' w3 lQ.out (by omega) (by omega))
      rw[Gm.out] at HL
      unfold pv at HL
      go_wp2_with fail
      refine HL.out.mono ?_
      rintro e w4 ⟨rfl,hk4⟩
      have zZ:=Lib.hid (lQ.out.non hk4)
      clear hk4 HL lQ
      go_wp2_with fail
      go_roundg (l.length-(k+1))
      case measure=>omega
      case rel=>exact⟨k+1,D',rfl,by omega,by go_num,zZ,Gm,Ll,Lm,Lp⟩
     ·have hm2:(only == -1)=false:=by rw[beq_eq_false_iff_ne];exact hm
      go_wp2_with fail
      go_roundg (l.length-(k+1))
      case measure=>omega
      case rel=>exact⟨k+1,D',rfl,by omega,by go_num,lQ,Gm,Ll,Lm,Lp⟩
   ·go_wp2_with fail
    refine(nC kind W1 hik.1 hik.2).mono ?_
    rintro e w2 ⟨rfl,rfl⟩
    rw[if_neg (by omega:¬kind≤5)]
    go_wp2_with fail
    refine(nC only W1 (by omega) (by omega)).mono ?_
    rintro e w2 ⟨rfl,rfl⟩
    rw[if_pos h5]
    have U9:Hid (Parts ([dY w]++au D) W1):=Aa.out.tail
    clear Aa d0 d1 d2 d3 d4 d5 d6 d7
    go_wp2_with fail
    go_roundg (l.length-(k+1))
    case measure=>omega
    case rel=>exact⟨k+1,D,rfl,by omega,by go_num,U9,Le,by omega,by omega,by omega⟩
  ·go_wp2_with fail
   go_ret
   exact⟨rfl,kS HP.out (List.mem_cons_self ..)⟩
theorem owned_walk(v:Value)(l:List xK)(w:World)(hT:Tabs w)(hv:Rd w 8 v l.length (Cb l))(ho:∀o∈l,uZ w o)(hl:l.length≤200000):
 Calls Tryz.prog 9 #[v] w fun e w'=>e=.returned (.bool true)∧Below w.heap.size w w':=by
 obtain⟨va,vc,rfl,hc1,hc2⟩:=hv.shape
 have HV:=Lib.hid hv
 have HO:=Lib.hid ho
 have HT:=Lib.hid hT
 clear hv ho hT
 go_enter Tryz.func9,Tryz.ntmps9
 go_wp2_with fail
 refine(xk l _ w HV.out HO.out hl).mono ?_
 rintro e w1 ⟨⟨g,rfl⟩,hk⟩
 have hb:=hk.below (Nat.le_refl _) (fun _ _ h=>h)
 have HB:=Lib.hid hb
 have HU:=Lib.hid (upto_any l _ (-1) w1 (HT.out.keeps hk) (HV.out.low hb) (fun o ho=>(HO.out o ho).low hb) hl (by decide) (by decide) (by decide))
 clear hk hb
 cases g
 ·go_wp2_with fail
  go_ret
  exact⟨rfl,HB.out⟩
 ·go_wp2_with fail
  refine HU.out.mono ?_
  rintro e w2 ⟨rfl,hb2⟩
  have HB2:Hid (Below w.heap.size w w2):=⟨hb2.os.trans HB.out.os,hb2.tape.trans HB.out.tape,hb2.output.trans HB.out.output,Nat.le_trans HB.out.size hb2.size,fun j hj=>(hb2.block j (Nat.lt_of_lt_of_le hj HB.out.size)).trans (HB.out.block j hj)⟩
  clear hb2
  go_wp2_with fail
  go_ret
  exact⟨rfl,HB2.out⟩
inductive vw where
 |none|open'|kind|file|dir|next'|more
 deriving DecidableEq
inductive Job where
 |word (may:List (List UInt8)) (act:vw)
 |leads
 |name
 |keep (k:Int)
 |jB|oP|oC
 deriving DecidableEq
def Job.most:Job→Nat
 | .word _ _=>8
 | .leads=>100
 | .name=>48
 | .keep _=>100
 | .jB=>12
 | .oP=>12
 | .oC=>8
structure CX where
 has:aH
 name:List UInt8
 refs:List (List UInt8)
 came:aH
 order:List (List UInt8)
structure aT where
 rest:List UInt8
 at':Nat
 err:Int
 bad:Int
 nodes:List Node
 above:Opens
 path:List UInt8
 x:CX
def aT.fail(σ:aT)(e:Int)(p:Int):aT:=if σ.err=0 then {σ with err:=e,bad:=p,rest:=[]} else σ
def aT.feed(σ:aT)(s:List UInt8):aT:=if σ.err=0 then {σ with rest:=σ.rest++s} else σ
def aT.add(σ:aT)(k:Int)(d:List UInt8):aT:={σ with nodes:=σ.nodes++[⟨σ.path,k,d⟩]}
def cu:List UInt8→Nat
 | []=>0
 |b :: r=>b.toNat+256*cu r
def aT.next(σ:aT)(most:Nat):Option (List UInt8)×aT:=
 if σ.err≠0∨σ.rest.length<8 then (.none,σ)
 else if most<cu (σ.rest.take 8) then (.none,σ.fail 3 σ.at')
 else if σ.rest.length<8+cu (σ.rest.take 8)+dN (cu (σ.rest.take 8)) then (.none,σ)
 else if ((σ.rest.drop (8+cu (σ.rest.take 8))).take (dN (cu (σ.rest.take 8)))).any (· != 0) then (.none,σ.fail 4 σ.at')
 else (.some ((σ.rest.drop 8).take (cu (σ.rest.take 8))),{σ with rest:=σ.rest.drop (8+cu (σ.rest.take 8)+dN (cu (σ.rest.take 8))),at':=σ.at'+(8+cu (σ.rest.take 8)+dN (cu (σ.rest.take 8)))})
abbrev gX:List UInt8:=[101,110,116,114,121]
abbrev gI:List UInt8:=[40]
abbrev aX:List UInt8:=[41]
abbrev nD:List UInt8:=[116,121,112,101]
abbrev fA:List UInt8:=[102,105,108,101]
abbrev fB:List UInt8:=[108,105,110,107]
abbrev jm:List UInt8:=[100,105,114]
abbrev jP:List UInt8:=[101,120,101,99]
abbrev gK:List UInt8:=[100,97,116,97]
abbrev Lr:List UInt8:=[116,111]
abbrev jQ:List UInt8:=[110,97,109,101]
abbrev nS:List UInt8:=[110,111,100,101]
abbrev cO:List UInt8:=[112,97,116,104]
abbrev iY:List UInt8:=[101,110,100]
abbrev fQ:List UInt8:=[114,101,102,115]
abbrev iO:List UInt8:=[114,101,102]
abbrev jf:List UInt8:=[115,117,109]
abbrev dK:List UInt8:=[101,120,112,111,114,116,45,49]
abbrev nT:List UInt8:=[110,97,114,45,49]
def kG:List Job:=[.word [gI] .open',.word [nD] .none,.word [fA,fB,jm] .kind]
def mQ:Job:=.word [gX,aX] .dir
def qV:List Job:=.word [nT] .none :: kG
def fC:Job:=.word [iO,jf] .more
def gU:Job:=.word [cO,iY] .next'
def iZ(l:List (List UInt8))(s:List UInt8):Bool:=match l.getLast? with
 | .none=>true
 | .some t=>Op.bytesLess t s
def jZ(x:CX):Nat:=x.came.countP fun e=>(aA x.has e.path).isNone
def CX.ent(x:CX)(l:List Node):dI:=⟨x.name,l,x.refs⟩
def dU(x:CX)(l:List Node)(s:List UInt8):Int:=
 if s≠(sumOf (aJ l)).data.toList then 16
 else match aA x.has x.name with
  | .some o=>if jM o (x.ent l) then 0 else 12
  | .none=>if x.has.length+jZ x=10 then 14 else 0
def tu(L:aH)(e:dI):aH:=L.filter (fun o=>o.path !=e.path)++[e]
def dG(x:CX)(s:List UInt8):Int:=if !fF s then 11 else if (aA x.came s).isSome then 7 else 0
def eY(x:CX)(s:List UInt8):Int:=if !iZ x.refs s then 7 else if s≠x.name∧aA x.has s=.none∧aA x.came s=.none then 13 else 0
def aT.aO(σ:aT)(e:Int)(p:Int):aT:=if e=0 then σ else σ.fail e p
def bI(act:vw)(s:List UInt8)(p:Int)(σ:aT):List Job×aT:=
 match act with
 | .none=>([],σ)
 | .open'=>([],if 5<σ.above.length then σ.fail 8 p else if σ.nodes.length=30 then σ.fail 9 p else σ)
 | .kind=>
   if s=fA then ([.word [jP,gK] .file],σ)
   else if s=fB then ([.word [Lr] .none,.leads,.word [aX] .none],σ)
   else if s=jm then ([mQ],{σ.add 4 [] with above:=σ.above++[(σ.path,[])]})
   else ([],σ)
 | .next'=>if s=cO then ([.jB],σ) else ([],σ)
 | .more=>if s=iO then ([.oP,fC],σ) else ([.oC,gU],σ)
 | .file=>if s=jP then ([.word [[]] .none,.word [gK] .none,.keep 2,.word [aX] .none],σ) else ([.keep 1,.word [aX] .none],σ)
 | .dir=>if s=aX then ([],{σ with above:=σ.above.dropLast})
   else ([.word [gI] .none,.word [jQ] .none,.name,.word [nS] .none]++kG++[.word [aX] .none,mQ],σ)
def aN(j:Job)(s:List UInt8)(p:Int)(σ:aT):List Job×aT:=
 match j with
 | .word may act=>if s∈may then bI act s p σ else ([],σ.fail 5 p)
 | .leads=>([],(if aZ 3 s then σ else σ.fail 6 p).add 3 s)
 | .name=>([],{(if !nameB s then σ.fail 6 p else if pY s (σ.above.getLastD ([],[])).2 then σ.fail 7 p else σ) with
  above:=σ.above.dropLast++[((σ.above.getLastD ([],[])).1,s)],path:=bg (σ.above.getLastD ([],[])).1 s})
 | .keep k=>([],σ.add k s)
 | .jB=>(qV++[.word [fQ] .none,fC],{σ.aO (dG σ.x s) p with nodes:=[],above:=[],path:=[],x:={σ.x with name:=s,refs:=[]}})
 | .oP=>([],{σ.aO (eY σ.x s) p with x:={σ.x with refs:=σ.x.refs++[s]}})
 | .oC=>([],{σ.aO (dU σ.x σ.nodes s) p with x:={σ.x with came:=tu σ.x.came (σ.x.ent σ.nodes),order:=σ.x.order++[σ.x.name]}})
def vC:Nat→List Job→aT→List Job×aT
 |0,js,σ=>(js,σ)
 |_+1,[],σ=>([],if σ.rest=[] then σ else σ.fail 10 σ.at')
 |f+1,j :: js,σ=>match σ.next j.most with
  |(.none,σ')=>(j :: js,σ')
  |(.some s,σ')=>vC f ((aN j s σ.at' σ').1++js) (aN j s σ.at' σ').2
def run(js:List Job)(σ:aT):List Job×aT:=vC (σ.rest.length+1) js σ
theorem aT.feed_bad{σ:aT}(h:σ.err≠0)(t:List UInt8):σ.feed t=σ:=by rw[aT.feed,if_neg h]
theorem aT.dZ{σ:aT}(h:σ.err=0)(t:List UInt8):σ.feed t={σ with rest:=σ.rest++t}:=by rw[aT.feed,if_pos h]
theorem aT.fU{σ:aT}(h:σ.err≠0)(e p:Int):σ.fail e p=σ:=by rw[aT.fail,if_neg h]
theorem aT.qm{σ:aT}(h:σ.err=0)(e p:Int):σ.fail e p={σ with err:=e,bad:=p,rest:=[]}:=by rw[aT.fail,if_pos h]
theorem aT.qA(σ:aT)(e p:Int)(he:e≠0)(t:List UInt8):(σ.feed t).fail e p=(σ.fail e p).feed t:=by
 by_cases h:σ.err=0
 ·rw[aT.dZ h,aT.qm (σ:=σ) h,aT.qm (by exact h),aT.feed_bad (by exact he)]
 ·rw[aT.feed_bad h,aT.fU h,aT.feed_bad h]
theorem aT.RZ(σ:aT)(a b:List UInt8):(σ.feed a).feed b=σ.feed (a++b):=by
 by_cases h:σ.err=0
 ·rw[aT.dZ h,aT.dZ (by exact h),aT.dZ h,List.append_assoc]
 ·rw[aT.feed_bad h,aT.feed_bad h,aT.feed_bad h]
def aT.Gn(σ:aT):Prop:=σ.err≠0→σ.rest=[]
theorem aT.Gn.fail{σ:aT}(h:σ.Gn)(e p:Int):(σ.fail e p).Gn:=by
 by_cases h0:σ.err=0
 ·rw[aT.qm h0];intro _;rfl
 ·rw[aT.fU h0];exact h
theorem aT.Gn.feed{σ:aT}(h:σ.Gn)(t:List UInt8):(σ.feed t).Gn:=by
 by_cases h0:σ.err=0
 ·rw[aT.dZ h0];intro h1;exact absurd h0 h1
 ·rw[aT.feed_bad h0];exact h
inductive Qw (σ:aT) (most:Nat):Prop where
 |few:(σ.rest.length<8∨(8≤σ.rest.length∧cu (σ.rest.take 8)≤most∧σ.rest.length<8+cu (σ.rest.take 8)+dN (cu (σ.rest.take 8))))→σ.next most=(.none,σ)→Qw σ most
 |bad (e:Int):(e=3∨e=4)→(∀t,(σ.feed t).next most=(.none,(σ.feed t).fail e σ.at'))→Qw σ most
 |got (s:List UInt8) (k:Nat):8≤k→k≤σ.rest.length→(∀t,(σ.feed t).next most=(.some s,{σ with rest:=σ.rest.drop k,at':=σ.at'+k}.feed t))→Qw σ most
theorem Ee(σ:aT)(most:Nat)(he:σ.err=0):Qw σ most:=by
 by_cases h8:σ.rest.length<8
 ·refine .few (.inl h8) ?_
  rw[aT.next,if_pos (.inr h8)]
 ·have key:∀t,(σ.feed t).err=0∧(σ.feed t).rest=σ.rest++t∧(σ.feed t).at'=σ.at'∧(σ.rest++t).take 8=σ.rest.take 8:=by
   intro t
   rw[aT.dZ he]
   refine⟨he,rfl,rfl,?_⟩
   rw[List.take_append_of_le_length (by omega)]
  by_cases hm:most<cu (σ.rest.take 8)
  ·refine .bad 3 (.inl rfl) (fun t=>?_)
   obtain⟨k1,k2,k3,k4⟩:=key t
   rw[aT.next,if_neg (by rw[k1,k2,List.length_append];simp;omega),k2,k4,if_pos hm,k3]
  ·by_cases hf:σ.rest.length<8+cu (σ.rest.take 8)+dN (cu (σ.rest.take 8))
   ·refine .few (.inr ⟨by omega,by omega,hf⟩) ?_
    rw[aT.next,if_neg (by rw[he];simp;omega),if_neg hm,if_pos hf]
   ·generalize hn:cu (σ.rest.take 8)=n at *
    have hd:∀t,((σ.rest++t).drop (8+n)).take (dN n)=(σ.rest.drop (8+n)).take (dN n):=by
     intro t
     rw[List.drop_append_of_le_length (by omega),List.take_append_of_le_length (by rw[List.length_drop];omega)]
    have hs:∀t,((σ.rest++t).drop 8).take n=(σ.rest.drop 8).take n:=by
     intro t
     rw[List.drop_append_of_le_length (by omega),List.take_append_of_le_length (by rw[List.length_drop];omega)]
    have hr:∀t,(σ.rest++t).drop (8+n+dN n)=σ.rest.drop (8+n+dN n)++t:=by
     intro t
     rw[List.drop_append_of_le_length (by omega)]
    by_cases hp:((σ.rest.drop (8+n)).take (dN n)).any (· != 0)=true
    ·refine .bad 4 (.inr rfl) (fun t=>?_)
     obtain⟨k1,k2,k3,k4⟩:=key t
     rw[aT.next,if_neg (by rw[k1,k2,List.length_append];simp;omega),k2,k4,hn,if_neg hm,if_neg (by rw[List.length_append];omega),hd,if_pos hp,k3]
    ·refine .got ((σ.rest.drop 8).take n) (8+n+dN n) (by omega) (by omega) (fun t=>?_)
     obtain⟨k1,k2,k3,k4⟩:=key t
     rw[aT.next,if_neg (by rw[k1,k2,List.length_append];simp;omega),k2,k4,hn,if_neg hm,if_neg (by rw[List.length_append];omega),hd,if_neg hp,k3,hs,hr]
     rw[aT.dZ he,aT.dZ (by exact he)]
theorem vX(σ:aT):σ.feed []=σ:=by
 by_cases h:σ.err=0
 ·rw[aT.dZ h,List.append_nil]
 ·rw[aT.feed_bad h]
theorem Ls{σ:aT}(h:σ.err≠0)(most:Nat):σ.next most=(.none,σ):=by rw[aT.next,if_pos (.inl h)]
theorem Jo(σ:aT)(t:List UInt8):(σ.feed t).x=σ.x∧(σ.feed t).nodes=σ.nodes:=by unfold aT.feed;split <;> exact⟨rfl,rfl⟩
theorem mV(σ:aT)(e p:Int):(σ.fail e p).x=σ.x∧(σ.fail e p).nodes=σ.nodes:=by unfold aT.fail;split <;> exact⟨rfl,rfl⟩
theorem Lu(σ:aT)(e p:Int):(σ.aO e p).x=σ.x∧(σ.aO e p).nodes=σ.nodes:=by
 unfold aT.aO;split
 ·exact⟨rfl,rfl⟩
 ·exact mV ..
theorem vY(σ:aT)(e p:Int)(t:List UInt8):(σ.feed t).aO e p=(σ.aO e p).feed t:=by
 unfold aT.aO
 split
 ·rfl
 ·rename_i h;exact aT.qA _ _ _ h _
theorem VU(σ:aT)(l:List Node)(ab:Opens)(q:List UInt8)(y:CX)(t:List UInt8):({σ with nodes:=l,above:=ab,path:=q,x:=y}:aT).feed t={σ.feed t with nodes:=l,above:=ab,path:=q,x:=y}:=by
 unfold aT.feed;split <;> simp_all
theorem Hg(σ:aT)(y:CX)(t:List UInt8):({σ with x:=y}:aT).feed t={σ.feed t with x:=y}:=by
 unfold aT.feed;split <;> simp_all
theorem OU(a:vw)(s:List UInt8)(p:Int)(σ:aT)(t:List UInt8):bI a s p (σ.feed t)=((bI a s p σ).1,(bI a s p σ).2.feed t):=by
 by_cases h:σ.err=0
 ·cases a <;> simp only[bI]
  ·rw[aT.qA _ _ _ (by decide),aT.qA _ _ _ (by decide),aT.dZ h]
   simp only
   split
   ·rfl
   ·split
    ·rfl
    ·rw[aT.dZ h]
  ·split
   ·rfl
   ·split
    ·rfl
    ·split
     ·simp only[aT.dZ h,aT.add]
      rw[aT.dZ (by exact h)]
     ·rfl
  ·split <;> rfl
  ·split
   ·simp only[aT.dZ h]
    rw[aT.dZ (by exact h)]
   ·rfl
  ·split <;> rfl
  ·split <;> rfl
 ·have h2:(bI a s p σ).2.err≠0:=by
   cases a <;> simp only[bI]
   ·exact h
   ·split
    ·rw[aT.fU h];exact h
    ·split
     ·rw[aT.fU h];exact h
     ·exact h
   ·split
    ·exact h
    ·split
     ·exact h
     ·split <;> exact h
   ·split <;> exact h
   ·split <;> exact h
   ·split <;> exact h
   ·split <;> exact h
  rw[aT.feed_bad h,aT.feed_bad h2]
theorem OV(j:Job)(s:List UInt8)(p:Int)(σ:aT)(he:σ.err=0)(t:List UInt8):aN j s p (σ.feed t)=((aN j s p σ).1,(aN j s p σ).2.feed t):=by
 cases j with
 |word may act=>
  simp only[aN]
  split
  ·exact OU ..
  ·rw[aT.qA _ _ _ (by decide)]
 |leads=>
  simp only[aN]
  split
  ·simp only[aT.add,aT.dZ he];rw[aT.dZ (by exact he)]
  ·rw[aT.qA _ _ _ (by decide),aT.qm he,aT.feed_bad (by show(6:Int)≠0;decide),aT.feed_bad (by show(6:Int)≠0;decide)]
 |name=>
  simp only[aN,aT.dZ he]
  split
  ·simp only[aT.fail,he,if_true];rw[aT.feed_bad (by show(6:Int)≠0;decide)]
  ·split
   ·simp only[aT.fail,he,if_true];rw[aT.feed_bad (by show(7:Int)≠0;decide)]
   ·rw[aT.dZ (by exact he)]
 |keep k=>simp only[aN,aT.add,aT.dZ he];rw[aT.dZ (by exact he)]
 |jB=>simp only[aN];rw[(Jo σ t).1,vY];exact congrArg (Prod.mk _) (VU _ _ _ _ _ _).symm
 |oP=>simp only[aN];rw[(Jo σ t).1,vY];exact congrArg (Prod.mk _) (Hg _ _ _).symm
 |oC=>simp only[aN];rw[(Jo σ t).1,(Jo σ t).2,vY];exact congrArg (Prod.mk _) (Hg _ _ _).symm
theorem zx(σ:aT)(e p:Int):(σ.fail e p).rest.length≤σ.rest.length:=by
 unfold aT.fail;split
 ·simp
 ·exact Nat.le_refl _
theorem qW(σ:aT)(e p:Int):(σ.aO e p).rest.length≤σ.rest.length:=by
 unfold aT.aO;split
 ·exact Nat.le_refl _
 ·exact zx ..
theorem qX(j:Job)(s:List UInt8)(p:Int)(σ:aT):(aN j s p σ).2.rest.length≤σ.rest.length:=by
 have hf:=zx σ
 cases j with
 |word may act=>
  simp only[aN]
  split
  ·cases act <;> simp only[bI]
   ·exact Nat.le_refl _
   ·split
    ·exact hf _ _
    ·split
     ·exact hf _ _
     ·exact Nat.le_refl _
   ·split
    ·exact Nat.le_refl _
    ·split
     ·exact Nat.le_refl _
     ·split <;> exact Nat.le_refl _
   ·split <;> exact Nat.le_refl _
   ·split <;> exact Nat.le_refl _
   ·split <;> exact Nat.le_refl _
   ·split <;> exact Nat.le_refl _
  ·exact hf _ _
 |leads=>
  simp only[aN]
  split
  ·exact Nat.le_refl _
  ·exact hf _ _
 |name=>
  simp only[aN]
  split
  ·exact hf _ _
  ·split
   ·exact hf _ _
   ·exact Nat.le_refl _
 |keep k=>exact Nat.le_refl _
 |jB=>exact qW ..
 |oP=>exact qW ..
 |oC=>exact qW ..
theorem aT.Gn.aO{σ:aT}(h:σ.Gn)(e p:Int):(σ.aO e p).Gn:=by
 unfold aT.aO;split
 ·exact h
 ·exact h.fail _ _
theorem Si(a:vw)(s:List UInt8)(p:Int)(σ:aT)(h:σ.Gn):(bI a s p σ).2.Gn:=by
 cases a <;> simp only[bI]
 ·exact h
 ·split
  ·exact h.fail _ _
  ·split
   ·exact h.fail _ _
   ·exact h
 ·split
  ·exact h
  ·split
   ·exact h
   ·split <;> exact h
 ·split <;> exact h
 ·split <;> exact h
 ·split <;> exact h
 ·split <;> exact h
theorem Hl(j:Job)(s:List UInt8)(p:Int)(σ:aT)(h:σ.Gn):(aN j s p σ).2.Gn:=by
 cases j with
 |word may act=>
  simp only[aN]
  split
  ·exact Si _ _ _ _ h
  ·exact h.fail _ _
 |leads=>
  simp only[aN]
  split
  ·exact h
  ·exact h.fail _ _
 |name=>
  simp only[aN]
  split
  ·exact h.fail _ _
  ·split
   ·exact h.fail _ _
   ·exact h
 |keep k=>exact h
 |jB=>exact h.aO _ _
 |oP=>exact h.aO _ _
 |oC=>exact h.aO _ _
theorem Ho{σ σ':aT}{most:Nat}{r:Option (List UInt8)}(h:∀t,(σ.feed t).next most=(r,σ'.feed t)):σ.next most=(r,σ'):=by
 have:=h []
 rwa [vX,vX] at this
theorem Hq:∀(f g:Nat) (js:List Job) (σ:aT),σ.rest.length<f→σ.rest.length<g→vC f js σ=vC g js σ
 |0,_,_,_,h,_=>absurd h (by omega)
 |_,0,_,_,_,h=>absurd h (by omega)
 |f+1,g+1,[],σ,_,_=>by simp only[vC]
 |f+1,g+1,j :: js,σ,hf,hg=>by
  by_cases he:σ.err=0
  ·rcases Ee σ j.most he with⟨h1,h2⟩|⟨e,h1,h2⟩|⟨s,k,hk8,hkl,h2⟩
   ·simp only[vC,h2]
   ·have:=h2 []
    rw[vX] at this
    simp only[vC,this]
   ·have:=Ho h2
    simp only[vC,this]
    have hr:=qX j s σ.at' {σ with rest:=σ.rest.drop k,at':=σ.at'+k}
    simp only[List.length_drop] at hr
    exact Hq f g _ _ (by omega) (by omega)
  ·simp only[vC,Ls he]
theorem rQ(σ:aT):run [] σ=([],if σ.rest=[] then σ else σ.fail 10 σ.at'):=rfl
theorem run_stop{j:Job}{js:List Job}{σ σ':aT}(h:σ.next j.most=(.none,σ')):run (j :: js) σ=(j :: js,σ'):=by
 show vC (σ.rest.length+1) (j :: js) σ=_
 simp only[vC,h]
theorem CV{j:Job}{js:List Job}{σ:aT}{s:List UInt8}{k:Nat}(hk8:8≤k)(hkl:k≤σ.rest.length)(h:σ.next j.most=(.some s,{σ with rest:=σ.rest.drop k,at':=σ.at'+k})):
 run (j :: js) σ=run ((aN j s σ.at' {σ with rest:=σ.rest.drop k,at':=σ.at'+k}).1++js) (aN j s σ.at' {σ with rest:=σ.rest.drop k,at':=σ.at'+k}).2:=by
 have hr:=qX j s σ.at' {σ with rest:=σ.rest.drop k,at':=σ.at'+k}
 simp only[List.length_drop] at hr
 show vC (σ.rest.length+1) (j :: js) σ=vC _ _ _
 simp only[vC,h]
 exact Hq _ _ _ _ (by omega) (by omega)
theorem CW{σ:aT}(h:σ.err≠0)(hd:σ.Gn)(js:List Job):run js σ=(js,σ):=by
 cases js with
 |nil=>rw[rQ,if_pos (hd h)]
 |cons j js=>exact run_stop (Ls h _)
theorem LC:∀(n:Nat) (js:List Job) (σ:aT) (t:List UInt8),σ.rest.length≤n→σ.Gn→run js (σ.feed t)=run (run js σ).1 ((run js σ).2.feed t)∧(run js σ).2.Gn
 |n,js,σ,t,hn,hd=>by
  by_cases he:σ.err=0
  ·cases js with
   |nil=>
    rw[rQ,rQ,aT.dZ he]
    by_cases hr:σ.rest=[]
    ·simp only[hr,if_true,List.nil_append]
     rw[rQ,aT.dZ he,hr]
     exact⟨rfl,hd⟩
    ·simp only[if_neg hr]
     rw[if_neg (by simp[hr])]
     rw[rQ,aT.qm he,aT.feed_bad (by show(10:Int)≠0;decide),aT.qm (by exact he)]
     exact⟨rfl,fun _=>rfl⟩
   |cons j js=>
    rcases Ee σ j.most he with⟨h1,h2⟩|⟨e,h1,h2⟩|⟨s,k,hk8,hkl,h2⟩
    ·rw[run_stop h2]
     exact⟨rfl,hd⟩
    ·have h0:=h2 []
     rw[vX] at h0
     have he0:e≠0:=by rcases h1 with rfl|rfl <;> decide
     rw[run_stop h0,run_stop (h2 t),aT.qA _ _ _ he0]
     refine⟨?_,hd.fail _ _⟩
     have hb:((σ.fail e σ.at').feed t).err≠0:=by
      rw[aT.qm he,aT.feed_bad (by exact he0)];exact he0
     rw[CW hb ((hd.fail _ _).feed _)]
    ·have h0:=Ho h2
     rw[CV hk8 hkl h0]
     have hr:=qX j s σ.at' {σ with rest:=σ.rest.drop k,at':=σ.at'+k}
     simp only[List.length_drop] at hr
     have hdd:aT.Gn {σ with rest:=σ.rest.drop k,at':=σ.at'+k}:=fun h=>absurd he h
     have ih:=LC (n-1) ((aN j s σ.at' {σ with rest:=σ.rest.drop k,at':=σ.at'+k}).1++js) (aN j s σ.at' {σ with rest:=σ.rest.drop k,at':=σ.at'+k}).2 t (by omega) (Hl _ _ _ _ hdd)
     refine⟨?_,ih.2⟩
     rw[←ih.1]
     have h3:run (j :: js) (σ.feed t)=run ((aN j s σ.at' ({σ with rest:=σ.rest.drop k,at':=σ.at'+k}.feed t)).1++js) (aN j s σ.at' ({σ with rest:=σ.rest.drop k,at':=σ.at'+k}.feed t)).2:=by
      have hh:=h2 t
      have e1:({σ with rest:=σ.rest.drop k,at':=σ.at'+k}:aT).feed t={(σ.feed t) with rest:=(σ.feed t).rest.drop k,at':=(σ.feed t).at'+k}:=by
       rw[aT.dZ (by exact he),aT.dZ he,List.drop_append_of_le_length hkl]
      rw[e1] at hh ⊢
      have e2:σ.at'=(σ.feed t).at':=by rw[aT.dZ he]
      rw[e2]
      exact CV hk8 (by rw[aT.dZ he,List.length_append];omega) hh
     rw[h3,OV _ _ _ _ (by exact he)]
  ·rw[aT.feed_bad he,CW he hd,aT.feed_bad he,CW he hd]
   exact⟨rfl,hd⟩
 termination_by n _ σ=>σ.rest.length
 decreasing_by simp only[List.length_drop] at *;omega
def steps:List (List UInt8)→List Job×aT→List Job×aT
 | [],x=>x
 |p :: ps,x=>steps ps (run x.1 (x.2.feed p))
theorem Hr:∀(ps:List (List UInt8)) (js:List Job) (σ:aT),σ.Gn→steps ps (run js σ)=run js (σ.feed ps.flatten)
 | [],js,σ,_=>by rw[List.flatten_nil,vX];rfl
 |p :: ps,js,σ,hd=>by
  show steps ps (run (run js σ).1 ((run js σ).2.feed p))=_
  rw[←(LC _ js σ p (Nat.le_refl _) hd).1,Hr ps js _ (hd.feed p),aT.RZ,List.flatten_cons]
end Go.Proofs.YtdkogijdfgfpeaaGreatDoor
