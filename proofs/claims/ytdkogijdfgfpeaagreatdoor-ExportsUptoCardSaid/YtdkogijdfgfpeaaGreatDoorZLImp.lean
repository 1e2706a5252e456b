/- What an import on both sides leaves of the law's World. -/
import Derived.Test.YtdkogijdfgfpeaaGreatDoorZQIns
import Derived.Test.YtdkogijdfgfpeaaGreatDoorZIImpW
import Derived.Test.YtdkogijdfgfpeaaGreatDoorZRIW
import Derived.Test.YtdkogijdfgfpeaaGreatDoorZPackw
import Derived.Test.YtdkogijdfgfpeaaGreatDoorZPack
set_option linter.unusedVariables false
namespace Go.Proofs.YtdkogijdfgfpeaaGreatDoor
open Go Go.RowKit
set_option maxHeartbeats 1600000
set_option maxRecDepth 100000
def pV(has:aH)(S:List UInt8):List (List UInt8)×Int×Int×aH:=
 match gq has S with
 | .error e=>([],e.1,e.2,has)
 | .ok x=>((bG has x.came).2,0,0,(bG has x.came).1)
structure yj(w:World)(F:Nat→Prop)(s:Nat)(R:List (List UInt8)×Int×Int×aH)(v:Value)(w':World):Prop where
 sl:Sl w' w.heap.size 9 1 v R.1.length (bf R.1)
 st:∃F',aU w' F' s R.2.2.2∧(∀k,F' k→F k∨(w.heap.size≤k∧k<w'.heap.size))∧∀k,v.ownBlock=some k→¬F' k
 kp:Keeps F w w'
structure PY(w:World)(G:Nat→Prop)(r:Nat)(R:List (List UInt8)×Int×Int×aH)(v:Value)(w':World):Prop where
 sl:Sl w' w.heap.size 9 1 v R.1.length (bf R.1)
 st:∃G',CO w' G' r R.2.2.2∧(∀k,G' k→G k∨(w.heap.size≤k∧k<w'.heap.size))∧∀k,v.ownBlock=some k→¬G' k
 kp:Keeps G w w'
theorem XR{w w':World}{F:Nat→Prop}{s:Nat}{has:aH}{S:List UInt8}{ed:Ending}(h:zM w F s has S ed w')(hs:aU w F s has):
 ∃v,ed=.returned (.tuple #[v,.int .i64 (pV has S).2.1,.int .i64 (pV has S).2.2.1])∧yj w F s (pV has S) v w':=by
 unfold zM at h
 unfold pV
 cases hi:gq has S with
 |error e=>
  rw[hi] at h
  obtain⟨rfl,hk⟩:=h
  exact⟨_,rfl,Sl.nil _ _ _ _,⟨F,hs.non hk,fun _ h=>.inl h,fun k hk=>by cases hk⟩,hk.mono fun _ _ h=>h.elim⟩
 |ok x=>
  rw[hi] at h
  obtain⟨v,rfl,h1,h2,h3⟩:=h
  exact⟨v,rfl,h1,h2,h3⟩
theorem Ua{w w':World}{G:Nat→Prop}{r:Nat}{has:aH}{S:List UInt8}{ed:Ending}(h:og w G r has S ed w')(hs:CO w G r has):
 ∃v,ed=.returned (.tuple #[v,.int .i64 (pV has S).2.1,.int .i64 (pV has S).2.2.1])∧PY w G r (pV has S) v w':=by
 unfold og at h
 unfold pV
 cases hi:gq has S with
 |error e=>
  rw[hi] at h
  obtain⟨rfl,hk⟩:=h
  exact⟨_,rfl,Sl.nil _ _ _ _,⟨G,hs.non hk,fun _ h=>.inl h,fun k hk=>by cases hk⟩,hk.mono fun _ _ h=>h.elim⟩
 |ok x=>
  rw[hi] at h
  obtain⟨v,rfl,h1,h2,h3⟩:=h
  exact⟨v,rfl,h1,h2,h3⟩
theorem Ub(es:aH):es.length≤(Gq es).length:=by
 have h:∀l:aH,l.length≤(l.flatMap lD).length:=by
  intro l
  induction l with
  |nil=>simp
  |cons e r ih=>
   have h1:=gZ cO
   have h2:(lD e).length=(bM cO).length+(bM e.path++(aJ e.tree++(bM fQ++(tH e.refs++(bM jf++bM (sumOf (aJ e.tree)).data.toList))))).length:=by rw[lD,List.length_append]
   rw[List.flatMap_cons,List.length_append,List.length_cons]
   omega
 have:=h es
 unfold Gq
 simp only[List.length_append]
 omega
theorem PZ{has:aH}{S:List UInt8}(hs:bK has):(pV has S).1.length≤S.length:=by
 unfold pV
 cases hi:gq has S with
 |error e=>simp
 |ok x=>
  obtain⟨-,-,hS⟩:=zB hi hs
  have h1:=yK has x.came
  have h2:=Ub x.came
  rw[hS]
  exact Nat.le_trans h1 h2
theorem yj.before{w w0 w':World}{F:Nat→Prop}{s:Nat}{R:List (List UInt8)×Int×Int×aH}{v:Value}(h:yj w0 F s R v w')(k:Keeps Non w w0):yj w F s R v w':=by
 obtain⟨h1,⟨F',h2,h3,h5⟩,h4⟩:=h
 have:=k.size
 exact⟨h1.mono this,⟨F',h2,fun j hj=>(h3 j hj).imp id fun h=>⟨by omega,h.2⟩,h5⟩,(k.mono fun _ _ h=>h.elim).trans h4 fun _ h=>.inl h⟩
theorem yj.after{w w1 w':World}{F:Nat→Prop}{s:Nat}{R:List (List UInt8)×Int×Int×aH}{v:Value}(h:yj w F s R v w1)(k:Keeps Non w1 w'):yj w F s R v w':=by
 obtain⟨h1,⟨F',h2,h3,h5⟩,h4⟩:=h
 have:=k.size
 exact⟨h1.non k,⟨F',h2.non k,fun j hj=>(h3 j hj).imp id fun h=>⟨h.1,by omega⟩,h5⟩,h4.trans k fun _ h=>h.elim⟩
theorem P5{X:List Part}{D:LD}{w w1 w2:World}{p:Pr}(hp:p∈D.ps)(h:Parts (X++au D) w){R:List (List UInt8)×Int×Int×aH}{v u:Value}(h1:yj w p.F p.s R v w1)(h2:PY w1 p.G p.r R u w2):
 ∃D':LD,D'.b=D.b∧D'.ps.length=D.ps.length∧D'.bs=D.bs∧D'.ls=D.ls∧D'.ts=D.ts∧Parts (aG iw 1 v R.1.length (bf R.1) :: (X++au D')) w2:=by
 obtain⟨l1,l2,hD⟩:=List.append_of_mem hp
 have hP:=lX h hp
 obtain⟨hs1,⟨F',hF,hFn,hFv⟩,k1⟩:=h1
 obtain⟨hs2,⟨G',hG,hGn,hGu⟩,k2⟩:=h2
 have acU:=hP.box.lt
 have s1:=k1.size
 have hFG:∀k,F' k→¬p.G k:=fun k hk hg=>by
  rcases hFn k hk with hk|hk
  ·exact hP.FG k hk hg
  ·have:=hP.qt.lt k hg
   omega
 have hpr:Yy w2 ⟨p.x,p.s,p.r,F',G',R.2.2.2⟩:=by
  refine⟨?_,?_,?_,?_,?_,hG⟩
  ·exact(hP.box.keeps k1 hP.nF).keeps k2 hP.nG
  ·intro hk
   rcases hFn _ hk with hk|hk
   ·exact hP.nF hk
   ·simp only at hk;omega
  ·intro hk
   rcases hGn _ hk with hk|hk
   ·exact hP.nG hk
   ·simp only at hk;omega
  ·intro k hk hg
   have hlt:=hF.lt k hk
   rcases hGn k hg with hg|hg
   ·exact hFG k hk hg
   ·omega
  ·exact hF.keeps k2 hFG
 have hk12:Keeps (bF p).S w w2:=(k1.mono fun k _ hk=>.inr (.inl hk)).trans k2 fun k hk=>.inl (.inr (.inr hk))
 have hnew:∀j,(bF (⟨p.x,p.s,p.r,F',G',R.2.2.2⟩:Pr)).S j→(bF p).S j∨w.heap.size≤j:=by
  intro j hj
  rcases hj with rfl|hj|hj
  ·exact .inl (.inl rfl)
  ·rcases hFn j hj with hj|hj
   ·exact .inl (.inr (.inl hj))
   ·exact .inr hj.1
  ·rcases hGn j hj with hj|hj
   ·exact .inl (.inr (.inr hj))
   ·exact .inr (by omega)
 have hT:=DX (q:=⟨p.x,p.s,p.r,F',G',R.2.2.2⟩) hD h rfl rfl hpr hk12 hnew
 refine⟨D.turned l1 l2 ⟨p.x,p.s,p.r,F',G',R.2.2.2⟩,rfl,LD.DZ hD,rfl,rfl,rfl,?_⟩
 have hv2:Sl w2 0 9 1 v R.1.length (bf R.1):=((hs1.keep fun b c hb hB hbk=>hbk.keeps k2 fun hg=>by have:=hP.qt.lt b hg;omega).mono (Nat.zero_le _))
 have hold:∀q∈X++au (D.turned l1 l2 ⟨p.x,p.s,p.r,F',G',R.2.2.2⟩),q∈X++au D∨q=bF ⟨p.x,p.s,p.r,F',G',R.2.2.2⟩:=by
  intro q hq
  have hc:bZ (l1++(⟨p.x,p.s,p.r,F',G',R.2.2.2⟩:Pr) :: l2)=bZ D.ps:=by
   rw[hD,lu,lu]
   rfl
  have hl:(l1++(⟨p.x,p.s,p.r,F',G',R.2.2.2⟩:Pr) :: l2).length=D.ps.length:=by rw[hD];simp
  have ht:jy (D.turned l1 l2 ⟨p.x,p.s,p.r,F',G',R.2.2.2⟩)=jy D:=by
   show [aj D.b (gu D) x9,aG ji 2 D.Gf (l1++(⟨p.x,p.s,p.r,F',G',R.2.2.2⟩:Pr) :: l2).length (bZ (l1++(⟨p.x,p.s,p.r,F',G',R.2.2.2⟩:Pr) :: l2)),_,_,_]=_
   rw[hc,hl]
   rfl
  rw[au,ht] at hq
  rw[au,hD]
  simp only[LD.turned,List.map_append,List.map_cons,List.mem_append,List.mem_cons] at hq ⊢
  rcases hq with hq|hq|(hq|hq|hq)|hq
  ·exact .inl (.inl hq)
  ·exact .inl (.inr (.inl hq))
  ·exact .inl (.inr (.inr (.inl (.inl hq))))
  ·exact .inr hq
  ·exact .inl (.inr (.inr (.inl (.inr (.inr hq)))))
  ·exact .inl (.inr (.inr (.inr hq)))
 refine⟨fun q hq=>?_,List.pairwise_cons.2 ⟨fun q hq j hj hqj=>?_,hT.sep⟩⟩
 ·rcases List.mem_cons.1 hq with rfl|hq
  ·exact hv2
  ·exact hT.all q hq
 ·have hj':v.ownBlock=some j:=hj
  obtain⟨hge,c,hc⟩:=hs1.ownB j hj'
  rcases hold q hq with hq|rfl
  ·have:=q.lt w (h.all q hq) j hqj
   omega
  ·have hlt1:=hc.lt
   rcases hqj with hqj|hqj|hqj
   ·have h3:j=p.x:=hqj
    omega
   ·exact hFv j hj' hqj
   ·rcases hGn j hqj with h3|h3
    ·have:=hP.qt.lt j h3
     omega
    ·omega
def intCells(l:List Int):List Value:=l.map fun z=>.int .i64 z
theorem P6(s:ByteArray)(v:Value)(cuts:List Int)(w:World)(hv:Rd w 1 v cuts.length (intCells cuts))(hs:s.size≤16777216)(hc:cuts.length≤16777216)(hr:∀z∈cuts,-9223372036854775808≤z∧z≤9223372036854775807):
 Calls Tryz.prog 69 #[.string s,v] w fun ed w'=>(∃(v':Value) (out:List (List UInt8)),ed=.returned v'∧Sl w' w.heap.size 9 1 v' out.length (bf out)∧out.flatten=s.data.toList∧out.length≤2*s.size)∧Keeps Non w w':=by
 obtain⟨ac,cc,rfl,hcl,hcm⟩:=hv.shape
 unfold maxLen at hcm
 have HV:=Lib.hid hv
 have HR:=Lib.hid hr
 clear hv hr
 go_enter Tryz.func69,Tryz.ntmps69
 go_wp2_with fail
 go_loopg [0,5,6] (s.size) (fun gk sv' ov kv wr=>∃(t:ByteArray) (out:List (List UInt8)) (k:Nat),gk=t.size∧t.size≤s.size∧k+t.size≤s.size∧out.length+2*t.size≤2*s.size∧sv'=.string t∧kv=.int .i64 k∧Hid (Sl wr w.heap.size 9 1 ov out.length (bf out))∧Hid (Keeps Non w wr)∧Hid (out.flatten++t.data.toList=s.data.toList))
 case atStart=>exact⟨s,[],0,rfl,Nat.le_refl _,by omega,by simp,rfl,rfl,Sl.nil _ _ _ _,Keeps.refl _ _,by show _=_;simp⟩
 case round=>
  obtain⟨t,out,k,rfl,hts,hkt,hot,rfl,rfl,HO,HK,HF⟩:=hrel
  obtain⟨ao,co,hsh,-,-⟩:=HO.out.shape
  subst hsh
  by_cases h0:t.size=0
  ·have hb:t.toList.isEmpty=true:=by rw[ByteArray.toList_eq];have:=dlen t;rw[h0] at this;rw[List.eq_nil_of_length_eq_zero this];rfl
   have hb2:(!t.toList.isEmpty)=false:=by rw[hb];rfl
   have Rq:Hid (out.flatten=s.data.toList):=by
    have h1:=dlen t
    rw[h0] at h1
    have h2:=HF.out
    rwa [List.eq_nil_of_length_eq_zero h1,List.append_nil] at h2
   clear h0
   go_wp2_with fail
   go_ret
   exact⟨⟨_,out,rfl,HO.out,Rq.out,by omega⟩,HK.out⟩
  ·have hb:t.toList.isEmpty=false:=by rw[ByteArray.toList_eq];have:=dlen t;cases hc:t.data.toList with
    |nil=>rw[hc] at this;simp at this;omega
    |cons x r=>rfl
   have hb2:(!t.toList.isEmpty)=true:=by rw[hb];rfl
   go_upto_if 16 with(fail)
   go_cut [7] (fun nv wx=>(∃z:Int,nv=.int .i64 z∧ -9223372036854775808≤z∧z≤9223372036854775807)∧wr=wx)
   case first=>
    obtain⟨g,hg⟩:∃g,decide (0<cuts.length)=g:=⟨_,rfl⟩
    rw[hg]
    cases g with
    |true=>
     have hc0:0<cuts.length:=of_decide_eq_true hg
     obtain⟨j,hj⟩:∃j,k % cuts.length=j:=⟨_,rfl⟩
     have hjl:j<cuts.length:=by rw[←hj];exact Nat.mod_lt _ hc0
     have amU:(k:Int).tmod (cuts.length:Int)=(j:Int):=by rw[←hj];rfl
     have akK:(k:Int) % (cuts.length:Int)=(j:Int):=by rw[←hj];rfl
     have hnz:((cuts.length:Int)==0)=false:=by rw[beq_eq_false_iff_ne];omega
     have amV:¬(cuts.length:Int)=0:=by omega
     have hj0:(0:Int)≤(j:Int):=by omega
     have hj1:(j:Int)<(cuts.length:Int):=by omega
     obtain⟨b',o',c',hsh,-,-,-,-,hcc,-⟩:=(HV.out.non HK.out).pos hc0
     cases hsh
     have d0:wr.cell? ⟨b',o'+j,none⟩=some (.int .i64 cuts[j]):=(hcc j (by omega)).trans (by simp[intCells,List.getElem?_eq_getElem hjl])
     have HZ:=HR.out cuts[j] (List.getElem_mem hjl)
     generalize cuts[j]=z at *
     clear hcc hj hg
     go_wp2_with fail
     go_meet
     exact⟨⟨z,rfl,HZ⟩,rfl⟩
    |false=>
     clear hg
     go_wp2_with fail
     go_meet
     exact⟨⟨(t.size:Int),rfl,by omega,by omega⟩,rfl⟩
   case rest=>
    obtain⟨⟨z,rfl,hz1,hz2⟩,rfl⟩:=hcut
    obtain⟨i0,hi,hi0,hi1,hi2⟩:=info_parts lM
    go_upto_if 25 with(fail)
    go_cut [5,7] (fun ov nv wx=>∃(out':List (List UInt8)) (z':Int),nv=.int .i64 z'∧1≤z'∧z'≤9223372036854775807∧out'.length≤out.length+1∧Hid (Sl wx w.heap.size 9 1 ov out'.length (bf out'))∧Hid (Keeps Non w wx)∧Hid (out'.flatten=out.flatten))
    case first=>
     obtain⟨g,hg⟩:∃g,decide (z≤0)=g:=⟨_,rfl⟩
     rw[hg]
     cases g with
     |true=>
      have hsl:=HO.out
      have hsz:=HK.out.size
      go_wp2_with (at_builtin;refine ay rfl _ _ 26 26 rfl 9 i0 _ 1 16 Tryz.underlying26 hi hi0 hi1 hi2 rfl w.heap.size _ _ _ rfl _ rfl 1 (bf [[]]) ?c1 (hsl.alloc _) ?c2 ?c3 ?c4 ?_)
      case c1=>simp;omega
      case c2=>exact Src.kP Tryz.underlying26 (aP wr 1 _ [[]] _ rfl rfl rfl (by simp)) (by intro u hu;simp only[bf,List.map,List.mem_cons,List.not_mem_nil,or_false] at hu;subst hu;rfl)
      case c3=>unfold maxLen;omega
      case c4=>omega
      intro a1 c1 w1 hs1 hk1 lW hb1
      have HO1:Hid (Sl w1 w.heap.size 9 1 (.slice a1 (out.length+1) c1) (out++[[]]).length (bf (out++[[]]))):=by
       show Sl _ _ _ _ _ _ _
       rw[List.length_append,show bf (out++[[]])=bf out++bf [[]] by simp[bf]]
       exact hs1
      have iy:Hid (Keeps Non w w1):=HK.out.trans (S':=fun k=>w.heap.size≤k) (Keeps.of_below (B:=w.heap.size) ((((Kp.refl w.heap.size [9] wr).alloc _).trans hk1).below hsz) (fun k hk hn=>by omega)) (fun k hk=>.inr hk)
      clear hs1 hk1 lW hb1 hsl hi hi0 hi1 hi2
      go_wp2_with fail
      go_meet
      exact⟨out++[[]],1,rfl,by omega,by omega,by simp,HO1,iy,by show _=_;simp⟩
     |false=>
      have hzp:¬z≤0:=of_decide_eq_false hg
      clear hg
      go_wp2_with fail
      go_meet
      exact⟨out,z,rfl,by omega,hz2,by omega,HO,HK,rfl⟩
    case rest=>
     obtain⟨out',z',rfl,hzp,hzm,hol,HO',HK',HF'⟩:=hcut
     obtain⟨ao',co',hsh,-,-⟩:=HO'.out.shape
     subst hsh
     go_upto_region 12 with(fail)
     obtain⟨m,hm⟩:∃m:Nat,min z' (t.size:Int)=(m:Int):=⟨(min z' (t.size:Int)).toNat,by omega⟩
     have hm1:1≤m:=by omega
     have hm2:m≤t.size:=by omega
     rw[hm]
     have HM:=Lib.hid hm
     clear hm
     have hsl:=HO'.out
     have hsz:=HK'.out.size
     have e1:(0:Int)≤(m:Int):=by omega
     have e2:(m:Int)≤(t.size:Int):=by omega
     go_wp2_with (at_builtin;refine ay rfl _ _ 26 26 rfl 9 i0 _ 1 16 Tryz.underlying26 hi hi0 hi1 hi2 rfl w.heap.size _ _ _ rfl _ rfl 1 (bf [(t.extract 0 m).data.toList]) ?c1 (hsl.alloc _) ?c2 ?c3 ?c4 ?_)
     case c1=>simp;omega
     case c2=>exact Src.kP Tryz.underlying26 (aP wc 1 _ [(t.extract 0 m).data.toList] _ rfl rfl rfl (by simp)) (by intro u hu;simp only[bf,List.map,List.mem_cons,List.not_mem_nil,or_false] at hu;subst hu;rfl)
     case c3=>unfold maxLen;omega
     case c4=>omega
     intro a1 c1 w1 hs1 hk1 lW hb1
     have HO1:Hid (Sl w1 w.heap.size 9 1 (.slice a1 (out'.length+1) c1) (out'++[(t.extract 0 m).data.toList]).length (bf (out'++[(t.extract 0 m).data.toList]))):=by
      show Sl _ _ _ _ _ _ _
      rw[List.length_append,show bf (out'++[(t.extract 0 m).data.toList])=bf out'++bf [(t.extract 0 m).data.toList] by simp[bf],show(t.extract 0 m).data.toList=t.data.toList.take m by rw[ext_list,List.drop_zero,Nat.sub_zero]]
      exact hs1
     have iy:Hid (Keeps Non w w1):=HK'.out.trans (S':=fun k=>w.heap.size≤k) (Keeps.of_below (B:=w.heap.size) ((((Kp.refl w.heap.size [9] wc).alloc _).trans hk1).below hsz) (fun k hk hn=>by omega)) (fun k hk=>.inr hk)
     have HF1:Hid ((out'++[(t.extract 0 m).data.toList]).flatten++(t.extract m t.size).data.toList=s.data.toList):=by
      show _=_
      rw[←HF.out,List.flatten_append,HF'.out,ext_list,ext_list]
      simp only[List.flatten_cons,List.flatten_nil,List.append_nil,List.drop_zero,Nat.sub_zero,List.append_assoc]
      rw[List.take_of_length_le (l:=t.data.toList.drop m) (by rw[List.length_drop,dlen];exact Nat.le_refl _),List.take_append_drop]
     have amW:(t.extract m t.size).size=t.size-m:=by rw[ByteArray.size_extract];omega
     clear hs1 hk1 lW hb1 hsl hi hi0 hi1 hi2
     go_wp2_with fail
     go_roundg ((t.extract m t.size).size)
     case measure=>omega
     case rel=>exact⟨t.extract m t.size,_,k+1,rfl,by omega,by omega,by rw[List.length_append,List.length_singleton];omega,rfl,by go_num,HO1,iy,HF1⟩
end Go.Proofs.YtdkogijdfgfpeaaGreatDoor
