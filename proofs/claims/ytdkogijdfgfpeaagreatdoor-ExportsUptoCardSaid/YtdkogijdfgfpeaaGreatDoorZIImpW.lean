/- (*store.Store).Import. -/
import Derived.Test.YtdkogijdfgfpeaaGreatDoorZILoop
import Derived.Test.YtdkogijdfgfpeaaGreatDoorZQIns
import Derived.Test.YtdkogijdfgfpeaaGreatDoorZRefX
set_option linter.unusedVariables false
set_option maxHeartbeats 6400000
set_option maxRecDepth 100000
namespace Go.Proofs.YtdkogijdfgfpeaaGreatDoor
open Go Go.RowKit Go.MapKept Go.ChangeShapes Go.WideShapes Go.ChangeMaps
def zM(w:World)(F:Nat→Prop)(s:Nat)(has:aH)(S:List UInt8)(ed:Ending)(w':World):Prop:=
 match gq has S with
 | .error e=>ed=.returned (.tuple #[.slice none 0 0,.int .i64 e.1,.int .i64 e.2])∧Keeps Non w w'
 | .ok x=>∃v,ed=.returned (.tuple #[v,.int .i64 0,.int .i64 0])∧Sl w' w.heap.size Cm 1 v (bG has x.came).2.length (bf (bG has x.came).2)∧
  (∃F',aU w' F' s (bG has x.came).1∧(∀k,F' k→F k∨(w.heap.size≤k∧k<w'.heap.size))∧∀k,v.ownBlock=some k→¬F' k)∧Keeps F w w'
theorem zN{w w':World}(h:Keeps (GE w.heap.size) w w'):Keeps Non w w':=⟨h.os,h.tape,h.output,h.size,fun k hk _=>h.block k hk fun e=>by have:w.heap.size≤k:=e;omega⟩
theorem yK(has:aH):∀came:aH,(bG has came).2.length≤came.length:=by
 intro came
 have h:∀(l:aH) (y:aH×List (List UInt8)),(l.foldl tJ y).2.length≤y.2.length+l.length:=by
  intro l
  induction l with
  |nil=>intro y;exact Nat.le_refl _
  |cons e r ih=>
   intro y
   have h1:=ih (tJ y e)
   have h2:(tJ y e).2.length≤y.2.length+1:=by
    unfold tJ
    split
    ·exact Nat.le_succ _
    ·simp
   simp only[List.foldl_cons,List.length_cons]
   omega
 simpa [bG] using h came (has,[])
theorem Np{has came:aH}{k:Nat}{e:dI}(h:came[k]? =some e):bG has (came.take (k+1))=tJ (bG has (came.take k)) e:=by
 have ht:came.take (k+1)=came.take k++[e]:=by rw[List.take_add_one,h];rfl
 rw[ht,wE]
theorem Tn.ent{w:World}{B:Nat}{tail:PT}{vo vr:Value}{p b:Nat}{e:dI}{ts:List (Job×Value)}{σ:aT}{F:Nat→Prop}(h:Tn w B tail vo vr p e)(hpa:PA B b tail ts σ w):lq w (fun k=>F k∨(B≤k∧k<w.heap.size)) p e:=by
 obtain⟨vt,ur,h1,h2,h3,h4,h5⟩:=h.blk
 obtain⟨_,_,_,_,hp⟩:=hpa
 have h6:=(hp.kept _ h2).1
 exact⟨.inr ⟨h.le,h1.lt⟩,vt,ur,h1,h6.rd,h3.rd,fun k hk=>.inr (h6.own k hk),fun k hk=>.inr (h3.own k hk)⟩
theorem Px{F:Nat→Prop}{s:Nat}{has:aH}(w:World)(h:aU w F s has)(hT:Tabs w)(ps:List (List UInt8))(v:Value)(hv:Rd w 1 v ps.length (bf ps))(hl:ps.flatten.length≤549755813888)(hpl:ps.length≤1099511627776):
 Calls Tryz.prog 21 #[pv s,v] w (zM w F s has ps.flatten):=by
 obtain⟨va,vc,rfl,hv1,hv2⟩:=hv.shape
 have HST:=Lib.hid h
 have HT:=Lib.hid hT
 have HV:=Lib.hid hv
 have HX0:=Lib.hid (TD h)
 have hmm:= @run_makeMap Tryz.prog
 have yc:Hid (Tryz.prog.underlying 82=some (.map 9 81)):=Tryz.underlying82
 have vJ:Hid (Keeps Non w ((w.alloc (.map #[] 0)).alloc (.cells (gQ s w.heap.size) TB))):=((Keeps.refl _ _).alloc _).alloc _
 have aij:Hid (kV≤w.heap.size):=hT.top
 unfold maxLen at hv2
 clear h hT hv
 unfold pv
 unfold gQ eF pv sv at HX0 vJ
 go_enter Tryz.func21,Tryz.ntmps21
 go_upto_region 2 with(fail)
 obtain⟨w1,hw1⟩:∃w1,(w.alloc (.map #[] 0)).alloc (.cells (List.toArray [.slice none 0 0,.int .i64 0,.int .i64 0,.int .i64 0,.slice none 0 0,.slice none 0 0,.slice none 0 0,.string ⟨#[]⟩,.pointer (some ⟨s,0,none⟩),.map (some w.heap.size),.slice none 0 0,.string ⟨#[]⟩,.slice none 0 0]) TB)=w1:=⟨_,rfl⟩
 have HX1:Hid (II w.heap.size (w.heap.size+1) F s [] (jc has) w1):=by rw[←hw1];exact HX0.out.1
 have H3:Hid (PA w.heap.size (w.heap.size+1) (uX s w.heap.size) [] (jc has) w1):=by rw[←hw1];exact HX0.out.2.1
 have C3:Hid (vG w1 w.heap.size (uX s w.heap.size) (jG has) F s):=by rw[←hw1];exact HX0.out.2.2
 have iy:Hid (Keeps Non w w1):=by rw[←hw1];exact vJ.out
 rw[hw1]
 clear hw1 HX0 vJ hmm
 generalize hB:w.heap.size=B at *
 have HB:=Lib.hid hB
 clear hB
 obtain⟨b,hb⟩:∃b,B+1=b:=⟨_,rfl⟩
 rw[hb] at HX1 H3 ⊢
 clear hb
 go_cut [] (fun wx=>∃ts:List (Job×Value),Hid (gY ts=iH)∧Hid (II B b F s ts (jc has) wx)∧Hid (Keeps (GE B) w wx))
 case first=>
  have htl:([]:List (Job×Value)).length≤1099511627000:=by simp
  go_region_held3 (fun _=>True) (trivial) (first
   |(go_at_call 46
     fail_if_success (have hz9:=J1)
     refine(fH b [dK] .none _ _ (by first|exact(aP _ 1 _ [dK] _ (by first|rfl|simp) rfl rfl (by simp))|exact((aP _ 1 _ [dK] _ (by first|rfl|simp) rfl rfl (by simp)).alloc _)|exact((aP _ 1 _ [dK] _ (by first|rfl|simp) rfl rfl (by simp)).drewN 1)|exact(((aP _ 1 _ [dK] _ (by first|rfl|simp) rfl rfl (by simp)).alloc _).drewN 1)|exact(((aP _ 1 _ [dK] _ (by first|rfl|simp) rfl rfl (by simp)).drewN 1).alloc _))).mono ?_
     rintro e w4 ⟨f1,rfl,hj1,hk1⟩
     have J1:=Lib.hid hj1
     have K4:Hid (Keeps Non w1 w4):=Keeps.tn (by repeat (first|exact Keeps.refl _ _|apply Keeps.alloc|apply Keeps.drew)) hk1)
   |(go_at_call 45
     refine(lZ H5.out [(.word [dK] .none,f1),(gU,f2)] 2 _ _ rfl rfl rfl (by omega) (by intro t ht;simp only[List.mem_cons,List.not_mem_nil,or_false] at ht;rcases ht with rfl|rfl;exact WH.out;exact J2.out) (by omega)).mono ?_
     rintro e w6 ⟨rfl,h6,k6⟩)
   |(go_at_call 46
     refine(fH b [cO,iY] .next' _ _ (by first|exact(aP _ 2 _ [cO,iY] _ (by first|rfl|simp) rfl rfl (by simp))|exact((aP _ 2 _ [cO,iY] _ (by first|rfl|simp) rfl rfl (by simp)).alloc _)|exact((aP _ 2 _ [cO,iY] _ (by first|rfl|simp) rfl rfl (by simp)).drewN 1)|exact(((aP _ 2 _ [cO,iY] _ (by first|rfl|simp) rfl rfl (by simp)).alloc _).drewN 1)|exact(((aP _ 2 _ [cO,iY] _ (by first|rfl|simp) rfl rfl (by simp)).drewN 1).alloc _)|exact Sl.non (aP _ 2 _ [cO,iY] _ (by first|rfl|simp) rfl rfl (by simp)) hk1|exact Sl.non ((aP _ 2 _ [cO,iY] _ (by first|rfl|simp) rfl rfl (by simp)).alloc _) hk1|exact Sl.non ((aP _ 2 _ [cO,iY] _ (by first|rfl|simp) rfl rfl (by simp)).drewN 1) hk1|exact Sl.non (((aP _ 2 _ [cO,iY] _ (by first|rfl|simp) rfl rfl (by simp)).alloc _).drewN 1) hk1|exact Sl.non (((aP _ 2 _ [cO,iY] _ (by first|rfl|simp) rfl rfl (by simp)).drewN 1).alloc _) hk1|exact(Sl.non (aP _ 2 _ [cO,iY] _ (by first|rfl|simp) rfl rfl (by simp)) hk1).drewN 1|exact(Sl.non ((aP _ 2 _ [cO,iY] _ (by first|rfl|simp) rfl rfl (by simp)).alloc _) hk1).drewN 1|exact(Sl.non ((aP _ 2 _ [cO,iY] _ (by first|rfl|simp) rfl rfl (by simp)).drewN 1) hk1).drewN 1|exact(Sl.non (((aP _ 2 _ [cO,iY] _ (by first|rfl|simp) rfl rfl (by simp)).alloc _).drewN 1) hk1).drewN 1|exact(Sl.non (((aP _ 2 _ [cO,iY] _ (by first|rfl|simp) rfl rfl (by simp)).drewN 1).alloc _) hk1).drewN 1)).mono ?_
     rintro e w5 ⟨f2,rfl,hj2,hk2⟩
     have WY:Keeps Non w4 w5:=Keeps.tn (by repeat (first|exact Keeps.refl _ _|apply Keeps.alloc|apply Keeps.drew)) hk2
     have J2:=Lib.hid hj2
     have WH:=Lib.hid (J1.out.keeps WY)
     have K5:=Lib.hid (K4.out.tn WY)
     have H5:=Lib.hid (H3.out.keeps K5.out)))
  all_goals (
   go_wp2_with fail
   go_meet
   have aik:=Nl HX1.out (ts:=[(gU,f2),(.word [dK] .none,f1)]) rfl h6 ((C3.out.non K5.out).kp k6 (by decide) (by decide))
   exact⟨[(gU,f2),(.word [dK] .none,f1)],rfl,aik,(iy.out.ge.gg K5.out.ge).gg k6.ge⟩)
 case rest=>
  obtain⟨rC,HJ0,HX2,iP⟩:=hcut
  generalize wc=w2 at *
  clear HX1 H3 C3 iy
  have Uo:Hid (kV≤B):=by have:=aij.out;have:=HB.out;show _≤_;omega
  have HS2:Hid (steps ps (iH,jc has)=steps (ps.drop 0) (gY rC,jc has)):=by show _=_;rw[HJ0.out];rfl
  have HL2:Hid ((jc has).at'+(jc has).rest.length+(ps.drop 0).flatten.length≤549755813888):=by show 0+0+ps.flatten.length≤_;omega
  go_wp2_with fail
  go_loopg [38] ps.length (fun gk iv wr=>∃(k:Nat) (ts:List (Job×Value)) (σ:aT),gk=ps.length-k∧k≤ps.length∧iv=.int .i64 k∧Hid (II B b F s ts σ wr)∧Hid (steps ps (iH,jc has)=steps (ps.drop k) (gY ts,σ))∧Hid (Keeps (GE B) w wr)∧Hid (σ.at'+σ.rest.length+(ps.drop k).flatten.length≤549755813888))
  case atStart=>exact⟨0,rC,jc has,rfl,Nat.zero_le _,rfl,HX2,HS2,iP,HL2⟩
  case round=>
   clear HX2 HS2 iP HL2
   obtain⟨k,ts,σ,rfl,hk,rfl,HX,HS,HK,HL⟩:=hrel
   by_cases hlt:k<ps.length
   ·have hbel:Below w.heap.size w wr:=HK.out.below (Nat.le_refl _) fun j hj hg=>by have h1:B≤j:=hg;have:=HB.out;omega
    obtain⟨bb,off,cp,hsh,-,-,-,hbl,hc,-⟩:=(HV.out.low hbel).pos (by omega)
    cases hsh
    have d0:wr.cell? ⟨bb,off+k,none⟩=some (sv ps[k]):=(hc k (by omega)).trans (dJ ps k hlt)
    have hdrop:ps.drop k=ps[k] :: ps.drop (k+1):=List.drop_eq_getElem_cons hlt
    obtain⟨p,hp⟩:∃p,ps[k]=p:=⟨_,rfl⟩
    rw[hp] at d0 hdrop
    have hL:=HL.out
    rw[hdrop,List.flatten_cons,List.length_append] at hL
    have HDR:=Lib.hid hdrop
    unfold sv at d0
    obtain⟨tail,hpa,hca,hfm⟩:=HX.out.mem
    have fJ:=Lib.hid hpa
    have HCA:=Lib.hid hca
    have HFM:=Lib.hid hfm
    have hfit:Fit ts σ:=HX.out.fit.fit
    have HF:Hid (Calls Tryz.prog 48 #[.pointer (some ⟨b,0,none⟩),.string ⟨p.toArray⟩] wr fun ed w'=>ed=.returned (.tuple #[])∧PA B b tail ts (σ.feed p) w'∧Kp B [5,TB] wr w'):=Wi ⟨p.toArray⟩ hpa hfit (by show p.toArray.size≤_;rw[List.size_toArray];omega)
    clear hdrop hc hp hpa hca hfm hfit hbel
    go_wp2_with fail
    refine HF.out.mono ?_
    rintro e w3 ⟨rfl,h3,k3⟩
    have Y3:=Lib.hid (HX.out.feed p (by omega) h3 (HCA.out.kp k3 (by decide) (by decide)) (HFM.out.kp fJ.out k3 (by decide)))
    have kL:=Lib.hid (HK.out.gg k3.ge)
    have HT3:=Lib.hid (HT.out.ge kL.out Uo.out)
    clear h3 k3 HF d0
    go_wp2_with fail
    refine(Xo Y3.out HT3.out Uo.out).mono ?_
    rintro e w4 ⟨rfl,⟨ts4,hj4,hx4⟩,hk4⟩
    have HX4:=Lib.hid hx4
    have wS:=Lib.hid (kL.out.gg hk4)
    have HS4:Hid (steps ps (iH,jc has)=steps (ps.drop (k+1)) (gY ts4,(run (gY ts) (σ.feed p)).2)):=by
     show _=_
     rw[HS.out,HDR.out,hj4]
     rfl
    have HL4:Hid ((run (gY ts) (σ.feed p)).2.at'+(run (gY ts) (σ.feed p)).2.rest.length+(ps.drop (k+1)).flatten.length≤549755813888):=by
     have h1:=Zi (gY ts) (σ.feed p)
     have h2:=Nj σ p
     show _≤_
     omega
    clear hj4 hx4 hk4 Y3 kL HT3
    go_wp2_with fail
    go_roundg (ps.length-(k+1))
    case measure=>omega
    case rel=>exact⟨k+1,ts4,_,rfl,by omega,by go_num,HX4,HS4,wS,HL4⟩
   ·have hke:k=ps.length:=by omega
    subst hke
    have HS5:Hid (steps ps (iH,jc has)=(gY ts,σ)):=by show _=_;rw[HS.out,List.drop_length];rfl
    have QK:Hid (Qx (told (finish (gY ts,σ)))=gq has ps.flatten):=by
     have h1:=Jp has ps
     rw[HS5.out] at h1
     exact h1
    obtain⟨tail,hpa,hca,hfm⟩:=HX.out.mem
    have fJ:=Lib.hid hpa
    have HCA:=Lib.hid hca
    have CU:=Lib.hid (Nk hpa HX.out.fit.fit)
    have hcl:σ.x.came.length≤549755813888:=by
     have h1:=HX.out.fx.came
     have h2:=HX.out.fit.all
     omega
    have HEF:=Lib.hid HX.out.fx.fit
    clear hpa hca hfm HS HL HS5 HX
    generalize wr=w5 at *
    obtain⟨σf,hσf⟩:∃σf,finish (gY ts,σ)=σf:=⟨_,rfl⟩
    have hxf:σf.x=σ.x:=by
     rw[←hσf]
     unfold finish
     split
     ·rfl
     ·exact(mV ..).1
    rw[hσf] at CU QK
    have HXF:=Lib.hid hxf
    clear hσf hxf
    go_wp2_with fail
    refine CU.out.mono ?_
    rintro e w6 ⟨rfl,h6,k6⟩
    have yU:=Lib.hid (HK.out.gg k6.ge)
    have Uj:=Lib.hid (HCA.out.kp k6 (by decide) (by decide))
    have H6:=Lib.hid h6
    clear h6 k6 CU HK HCA fJ
    by_cases he:σf.err=0
    ·have hb:(σf.err==0)=true:=by rw[he];rfl
     have hb2:(σf.err !=0)=false:=by rw[he];rfl
     have vg:Hid (gq has ps.flatten=.ok σ.x):=by
      show _=_
      rw[←QK.out,told,if_pos he,←HXF.out]
      rfl
     clear he
     obtain⟨x,hx⟩:∃x,σ.x=x:=⟨_,rfl⟩
     rw[hx] at vg Uj HEF hcl
     have LM:=zB vg.out HST.out.ok
     have hxh:=LM.2.1
     have HOX:=Lib.hid LM.1
     obtain⟨sm6,mb,L6,M6,vo,ra,rc,hrd,hmem,hcells,-,-⟩:=Uj.out.rd H6.out
     obtain⟨sm,m0,hF,hsb,hm0,hrest⟩:=Uj.out.st.map
     have Nc:x.order.length=x.came.length:=by rw[HOX.out.order,List.length_map]
     obtain⟨oa,oc,rfl,ho1,ho2⟩:=hmem.order.shape
     have c10:=hrd.c10
     have ain:=Lib.hid hmem.order
     have lY:=Lib.hid hmem
     have HSB:=Lib.hid hsb
     have HM0:=Lib.hid hm0
     have HFS:=Lib.hid hF
     have Vw:Hid (∀wr,Keeps (One sm) w6 wr→wr.cell? ⟨b,9,none⟩=some (.map (some mb))∧MapAt wr mb M6):=by
      intro wr hk
      obtain⟨_,_,_,_,hp⟩:=H6.out
      have hlow:=Uj.out.low sm hF
      have hb:=hp.blk.keeps hk (fun e=>hm0.eH hp.blk e)
      refine⟨(hb.cell 9).trans ((hp.blk.cell 9).symm.trans hrd.c9),hmem.map.keeps hk fun e=>?_⟩
      have h2:=hmem.le
      have:mb=sm:=e
      omega
     have hwide:aU w6 (fun k=>F k∨(B≤k∧k<w6.heap.size)) s has:=by
      have h1:=Uj.out.st
      rw[hxh] at h1
      refine h1.wide (fun k hk=>.inl hk) (fun k hk=>?_) (fun k hk=>?_)
      ·rcases hk with hk|hk
       ·exact h1.top k hk
       ·have:=Uo.out
        omega
      ·rcases hk with hk|hk
       ·exact h1.lt k hk
       ·exact hk.2
     have Uf:Hid (aU w6 (fun k=>F k∨(B≤k∧k<w6.heap.size)) s (bG has (x.came.take 0)).1):=hwide
     have HEN:Hid (∀e∈x.came,∃p,getM M6 e.path=some (pv p)∧lq w6 (fun k=>F k∨(B≤k∧k<w6.heap.size)) p e):=fun e he=>by
      obtain⟨p,hp,hE⟩:=hmem.ents e he
      exact⟨p,hp,hE.ent H6.out⟩
     have HCO:Hid (∀k,k≤x.came.length→Ih has (x.came.take k) (bG has (x.came.take k))):=fun k hk=>by
      have h1:=tK HOX.out k hk
      rw[hxh] at h1
      exact h1
     have HOM:Hid (x.order=x.came.map dI.path):=HOX.out.order
     obtain⟨Z,hZ⟩:∃Z,w6.heap.size=Z:=⟨_,rfl⟩
     rw[hZ] at Uf HEN
     have HZ:=Lib.hid hZ
     have HLO:Hid (∀k,F k→k<B):=Uj.out.low
     have Xp:Hid (Keeps Non w w6):=zN (by rw[HB.out];exact yU.out)
     have HO0:Hid (Sl w6 Z Cm 1 (.slice none 0 0) (bG has (x.came.take 0)).2.length (bf (bG has (x.came.take 0)).2)):=Sl.nil _ _ _ _
     unfold maxLen at ho2
     rw[Nc] at c10
     clear hrd hmem hsb hm0 hrest hF LM hx hwide Nc lY Uj H6 QK HXF hZ
     have pO:Hid (Keeps (One sm) w6 w6):=Keeps.refl _ _
     go_wp2_with fail
     clear c10
     go_loopg [12,69] x.came.length (fun gk ov iv wr=>∃(k:Nat) (va':Option Addr) (vc':Nat),gk=x.came.length-k∧k≤x.came.length∧ov=.slice va' (bG has (x.came.take k)).2.length vc'∧iv=.int .i64 k∧
      Hid (aU wr (fun k=>F k∨(B≤k∧k<Z)) s (bG has (x.came.take k)).1)∧Hid (Sl wr Z Cm 1 (.slice va' (bG has (x.came.take k)).2.length vc') (bG has (x.came.take k)).2.length (bf (bG has (x.came.take k)).2))∧Hid (Keeps (One sm) w6 wr))
     case atStart=>exact⟨0,none,0,rfl,Nat.zero_le _,rfl,rfl,Uf,HO0,pO⟩
     case round=>
      clear Uf HO0 pO
      obtain⟨k,va',vc',rfl,hk6,rfl,rfl,Zz,HOR,Zj⟩:=hrel
      have hsize:Z≤wr.heap.size:=by rw[←HZ.out];exact Zj.out.size
      by_cases aiq:k<x.came.length
      ·obtain⟨e,he⟩:∃e,x.came[k]? =some e:=⟨_,List.getElem?_eq_getElem aiq⟩
       have hem:=List.mem_of_getElem? he
       obtain⟨y,hy⟩:∃y,bG has (x.came.take k)=y:=⟨_,rfl⟩
       rw[hy] at Zz HOR ⊢
       have hor:=ain.out.keep (w':=wr) fun bb c _ _ hbk=>hbk.keeps Zj.out (fun e=>HM0.out.eH hbk e)
       obtain⟨ob,oo,oc2,hsh,-,-,-,hbl,hcc,-⟩:=hor.pos (by have:=HOM.out;rw[this,List.length_map];omega)
       have d0:wr.cell? ⟨ob,oo+k,none⟩=some (sv e.path):=by
        rw[hcc k (by rw[HOM.out,List.length_map];omega),HOM.out]
        simp[bf,he]
       cases hsh
       obtain⟨sm',m',g1,g2,g3,g4,g5,g6⟩:=Zz.out.map
       have e1:sm'=sm:=by
        have h1:=g2.inj (HSB.out.keeps Zj.out (fun e=>HM0.out.eH HSB.out e))
        have h2:=h1.1
        simpa using h2
       subst e1
       have cs:=g2.cell 0
       simp only[List.getElem?_toArray,List.getElem?_cons_zero] at cs
       obtain⟨hc9,Zk⟩:=Vw.out wr Zj.out
       obtain⟨p,hgp,hE⟩:=HEN.out e hem
       have hEr:lq wr (fun k=>F k∨(B≤k∧k<Z)) p e:=hE.keeps Zj.out fun b c T fr _ hc e2=>HM0.out.eH hc e2
       have QL:e.path.length≤1099511627776:=by
        obtain⟨es,c,-,hm⟩:=Zk
        exact hm.small _ ((jE hm.keys).1 hgp)
       have hsucc:=Np (has:=has) he
       have HHE:=Lib.hid he
       have hck:=HCO.out (k+1) (by omega)
       have hlen:=yK has (x.came.take k)
       rw[List.length_take] at hlen
       rw[hy] at hsucc hlen
       have HG3:=Lib.hid g3
       unfold sv at d0
       clear hcc hor hE hc9
       have c9:=(Vw.out wr Zj.out).1
       rcases aU.look g3 g5 g6 e.path with⟨hf,hg⟩|⟨e',q,hf,-,-,hg,-⟩
       ·have iG:Hid ((getM m' e.path).getD (.pointer none)=.pointer none):=by show _=_;rw[hg];rfl
        have Yd:Hid (bG has (x.came.take (k+1))=(ou y.1 e,y.2++[e.path])):=by
         show _=_
         rw[hsucc]
         unfold tJ
         rw[hf]
         rfl
        have aeA:bK (ou y.1 e):=by
         have h1:=hck.ok
         rw[Yd.out] at h1
         exact h1
        have hlk:Sem.run Tryz.prog (Instr.lookup 82 (.map (some mb)) (.string ⟨e.path.toArray⟩) false) wr.drew=.ok (.pointer (some ⟨p,0,none⟩)) wr.drew:=by
         have h1:=lg (P:=Tryz.prog) (w:=wr.drew) yc.out Tryz.underlying9 (z:=.pointer none) (Tryz.zeroValue81 _) (Zk.keeps (S:=Non) ((Keeps.refl _ _).drew) (fun h=>h)) QL false
         rw[if_neg (by simp),hgp] at h1
         exact h1
        obtain⟨w7,hmu,hm7,xg,hs7⟩:∃w7,Sem.run Tryz.prog (Instr.mapUpdate 82 (.map (some sm')) (.string ⟨e.path.toArray⟩) (.pointer (some ⟨p,0,none⟩))) wr.drew=.ok () w7∧MapAt w7 sm' (jJ m' e.path (pv p))∧Keeps (One sm') wr w7∧w7.heap.size=wr.heap.size:=by
         obtain⟨es,clock,hb,hM⟩:=g3
         obtain⟨es',clock',h1,h2,h3,-⟩:=nO (P:=Tryz.prog) (w:=wr.drew) yc.out Tryz.underlying9 hb hM (k:=e.path) QL (pv p)
         exact⟨_,h1,⟨es',clock',(heap_set hb).1,h2⟩,⟨h3.os,h3.tape,h3.output,h3.size,h3.block⟩,by simp⟩
        have X7:Hid (aU w7 (fun k=>F k∨(B≤k∧k<Z)) s (ou y.1 e)):=Zz.out.aii g1 g2 g3 g4 g5 g6 hEr hf hm7 xg aeA (HEF.out e hem)
        have Zl:Sl w7 Z Cm 1 (.slice va' y.2.length vc') y.2.length (bf y.2):=HOR.out.keep fun bb c _ _ hbk=>hbk.keeps xg (fun e=>HG3.out.eH hbk e)
        have OC:Hid (Keeps (One sm') w6 w7):=Zj.out.trans xg fun _ h=>.inl h
        have hz7:Z≤w7.heap.size:=by rw[hs7];exact hsize
        clear hs7
        obtain⟨i0,hi,hi0,hi1,hi2⟩:=info_parts wK
        clear hf hg aeA hck hsucc hy hem he g1 g2 g3 g4 g5 g6 hm7 xg hgp hEr Zk
        go_upto_region 17 with(first|(at_lookup;refine eG _ rfl _ _ _ rfl _ _ yc.out Tryz.underlying9 (.pointer none) (Tryz.zeroValue81 _) sm' m' rfl HG3.out e.path rfl QL ?_;rw[iG.out]))
        go_region_with (fail)
        all_goals (
         clear hmu hlk cs c9 d0
         go_wp2_with (at_builtin;refine ay rfl _ _ 26 26 rfl 9 i0 _ 1 16 Tryz.underlying26 hi hi0 hi1 hi2 rfl Z _ _ _ rfl _ rfl 1 [.string ⟨e.path.toArray⟩] ?d11 (Zl.alloc _) ?d12 ?d13 ?Gg ?_)
         case d11=>simp;omega
         case d12=>exact Src.kP Tryz.underlying26 (Sl.dM w7 0 (Nat.zero_le _) 9 1 1 [.string ⟨e.path.toArray⟩] rfl (by simp[maxLen])) (by intro u hu;simp only[List.mem_cons,List.not_mem_nil,or_false] at hu;rcases hu with rfl;rfl)
         case d13=>unfold maxLen;omega
         case Gg=>omega
         intro ao cc w8 hs8 hk8 uG hb8
         have hka:Keeps Non w7 (w7.alloc (.cells #[.string ⟨e.path.toArray⟩] 9)):=(Keeps.refl _ _).alloc _
         have hzb:B≤Z:=by rw[←HZ.out,←HB.out];exact Xp.out.size
         have Ce:Hid (Keeps (One sm') w6 w8):=(OC.out.trans hka fun _ h=>h.elim).trans uG fun j hj=>.inr (by rw[HZ.out];exact(Zl.own j hj).1)
         have KR:Hid (aU w8 (fun k=>F k∨(B≤k∧k<Z)) s (bG has (x.came.take (k+1))).1):=by
          rw[Yd.out]
          refine(X7.out.non hka).keeps uG fun j hj hj2=>?_
          have h1:=(Zl.own j hj2).1
          rcases hj with hj|hj
          ·have:=HLO.out j hj
           omega
          ·omega
         have HO8:Hid (Sl w8 Z Cm 1 (.slice ao (bG has (x.came.take (k+1))).2.length cc) (bG has (x.came.take (k+1))).2.length (bf (bG has (x.came.take (k+1))).2)):=by
          rw[Yd.out]
          show Sl w8 Z Cm 1 (.slice ao (y.2++[e.path]).length cc) (y.2++[e.path]).length (bf (y.2++[e.path]))
          rw[List.length_append,List.length_singleton]
          have e1:bf (y.2++[e.path])=bf y.2++[.string ⟨e.path.toArray⟩]:=by simp[bf,sv]
          rw[e1]
          exact hs8
         have hlc:(bG has (x.came.take (k+1))).2.length=y.2.length+1:=by rw[Yd.out];simp
         clear hs8 hk8 uG hb8 hka Zl hi hi0 hi1 hi2
         go_wp2_with fail
         go_roundg (x.came.length-(k+1))
         case measure=>omega
         case rel=>exact⟨k+1,ao,cc,rfl,by omega,by rw[hlc],by go_num,KR,HO8,Ce⟩)
       ·have iG:Hid ((getM m' e.path).getD (.pointer none)=.pointer (some ⟨q,0,none⟩)):=by show _=_;rw[hg];rfl
        have Yd:Hid (bG has (x.came.take (k+1))=y):=by
         show _=_
         rw[hsucc]
         unfold tJ
         rw[hf]
         rfl
        clear hf hg hck hsucc hy hem he g1 g2 g3 g4 g5 g6 hgp hEr Zk
        go_wp2_with (first|(at_lookup;refine eG _ rfl _ _ _ rfl _ _ yc.out Tryz.underlying9 (.pointer none) (Tryz.zeroValue81 _) sm' m' rfl HG3.out e.path rfl QL ?_;rw[iG.out]))
        go_roundg (x.came.length-(k+1))
        case measure=>omega
        case rel=>
         refine⟨k+1,va',vc',rfl,by omega,by rw[Yd.out],by go_num,?_,?_,Zj⟩
         ·rw[Yd.out];exact Zz
         ·rw[Yd.out];exact HOR
      ·have hke:k=x.came.length:=by omega
       subst hke
       rw[List.take_length] at Zz HOR ⊢
       go_wp2_with fail
       go_ret3
       unfold zM
       rw[vg.out]
       have hzb:B≤Z:=by rw[←HZ.out,←HB.out];exact Xp.out.size
       refine⟨_,rfl,HOR.out.mono (by rw[HB.out];exact hzb),⟨_,Zz.out,fun k hk=>?_,fun k hk hk2=>?_⟩,(Xp.out.mono fun _ _ h=>h.elim).trans Zj.out fun j hj=>.inl (by cases hj;exact HFS.out)⟩
       ·rw[HB.out]
        rcases hk with hk|hk
        ·exact .inl hk
        ·exact .inr ⟨hk.1,by omega⟩
       ·have h1:=(HOR.out.own k hk).1
        rcases hk2 with hk2|hk2
        ·have:=HLO.out k hk2
         omega
        ·omega
    ·have hb:(σf.err==0)=false:=by rw[beq_eq_false_iff_ne];exact he
     have hb2:(σf.err !=0)=true:=by unfold bne;rw[hb];rfl
     have HER:Hid (gq has ps.flatten=.error (σf.err,σf.bad)):=by
      show _=_
      rw[←QK.out,told,if_neg he]
      rfl
     clear he
     have Xp:Hid (Keeps Non w w6):=zN (by rw[HB.out];exact yU.out)
     go_wp2_with fail
     go_ret3
     unfold zM
     rw[HER.out]
     exact⟨rfl,Xp.out⟩
end Go.Proofs.YtdkogijdfgfpeaaGreatDoor
namespace Go.Proofs.YtdkogijdfgfpeaaGreatDoor
open Go Go.RowKit
structure Gs(w:World)(B:Nat)(G:Nat→Prop)(gy:List (Value×List Node))(e:dI)(t:Value×Value×Value):Prop where
 path:t.1=sv e.path
 tree:(Rd w 3 t.2.1 e.tree.length (ak e.tree)∧∀k,t.2.1.ownBlock=some k→G k)∨(t.2.1,e.tree)∈gy
 refs:(Rd w 1 t.2.2 e.refs.length (bf e.refs)∧∀k,t.2.2.ownBlock=some k→G k)∨Sl w B 9 1 t.2.2 e.refs.length (bf e.refs)
structure Ye(w:World)(B:Nat)(G:Nat→Prop)(gy:List (Value×List Node))(L:aH)(v:Value)(T:List (Value×Value×Value)):Prop where
 sl:Sl w 0 FT 3 v T.length (trip T)
 own:∀k,v.ownBlock=some k→G k∨B≤k
 len:T.length=L.length
 ents:∀(i:Nat) (e:dI) (t:Value×Value×Value),L[i]? =some e→T[i]? =some t→Gs w B G gy e t
def Py(B:Nat):Nat→Prop:=fun k=>B≤k
theorem Kp.Ur{B:Nat}{Ts:List TypeId}{w w':World}(h:Kp B Ts w w'):Keeps (Py B) w w':=
 ⟨h.os,h.tape,h.output,h.size,fun k hk hn=>by
  rcases h.block k hk with e|⟨hb,-⟩
  ·exact e
  ·exact absurd hb hn⟩
theorem Gs.turn{w w':World}{B:Nat}{G:Nat→Prop}{gy trs':List (Value×List Node)}{e:dI}{t:Value×Value×Value}(h:Gs w B G gy e t)(ht:∀x∈gy,x∈trs')(hr:∀(v:Value) (size n:Nat) (xs:List Value),Rd w size v n xs→(∀k,v.ownBlock=some k→G k)→Rd w' size v n xs)
 (hs:∀(v:Value) (n:Nat) (xs:List Value),v=t.2.2→Sl w B 9 1 v n xs→Sl w' B 9 1 v n xs):Gs w' B G trs' e t:=by
 refine⟨h.path,?_,?_⟩
 ·rcases h.tree with⟨h1,h2⟩|h1
  ·exact .inl ⟨hr _ _ _ _ h1 h2,h2⟩
  ·exact .inr (ht _ h1)
 ·rcases h.refs with⟨h1,h2⟩|h1
  ·exact .inl ⟨hr _ _ _ _ h1 h2,h2⟩
  ·exact .inr (hs _ _ _ rfl h1)
theorem Ye.kp{w w':World}{B:Nat}{G:Nat→Prop}{gy trs':List (Value×List Node)}{L:aH}{v:Value}{T:List (Value×Value×Value)}(h:Ye w B G gy L v T)(k:Kp B jd w w')(hG:∀j,G j→j<B)(ht:∀x∈gy,x∈trs'):Ye w' B G trs' L v T:=
 ⟨h.sl.kp k (.inl (by decide)),h.own,h.len,fun i e t he hx=>(h.ents i e t he hx).turn ht (fun v size n xs hv ho=>hv.keeps k.Ur fun b hb hg=>by have:=hG b (ho b hb);have:B≤b:=hg;omega) (fun v n xs _ hs=>hs.kp k (.inl (by decide)))⟩
theorem Ye.q{w:World}{B:Nat}{G:Nat→Prop}{gy:List (Value×List Node)}{L:aH}{v:Value}{T:List (Value×Value×Value)}(h:Ye w B G gy L v T)(hk:∀t∈gy,Sl w B 49 3 t.1 t.2.length (ak t.2)):kE w (fun k=>G k∨B≤k) L v T:=by
 refine⟨h.sl,h.own,h.len,fun i e t he hx=>?_⟩
 have hE:=h.ents i e t he hx
 refine⟨hE.path,?_,?_,fun b hb=>?_,fun b hb=>?_⟩
 ·rcases hE.tree with⟨h1,-⟩|h1
  ·exact h1
  ·exact(hk _ h1).rd
 ·rcases hE.refs with⟨h1,-⟩|h1
  ·exact h1
  ·exact h1.rd
 ·rcases hE.tree with⟨-,h1⟩|h1
  ·exact .inl (h1 b hb)
  ·exact .inr ((hk _ h1).own b hb).1
 ·rcases hE.refs with⟨-,h1⟩|h1
  ·exact .inl (h1 b hb)
  ·exact .inr (h1.own b hb).1
structure wL(w:World)(B b:Nat)(S:List UInt8)(G:Nat→Prop)(gy:List (Value×List Node))(q:RQ)(vl:Value)(L came:aH)(fresh:List (List UInt8))(lv cv fv:Value)(T T2:List (Value×Value×Value)):Prop where
 rd:lF B b gy S q w vl
 l:Ye w B G gy L lv T
 c:Ye w B G gy came cv T2
 f:Sl w B 9 1 fv fresh.length (bf fresh)
 Pz:∀k,cv.ownBlock=some k→B≤k
 a1:∀k,cv.ownBlock=some k→lv.ownBlock≠some k
 a2:∀t∈T++T2,∀k,t.2.2.ownBlock=some k→fv.ownBlock≠some k
section
variable {w w' w3 wa:World} {B b:Nat} {S:List UInt8} {G:Nat→Prop} {gy trs':List (Value×List Node)} {q q':RQ} {vl vl':Value} {L came:aH} {fresh:List (List UInt8)} {lv cv fv:Value} {T T2:List (Value×Value×Value)}
theorem wL.kp(h:wL w B b S G gy q vl L came fresh lv cv fv T T2)(k:Kp B jd w w')(hr:lF B b trs' S q' w' vl')(hG:∀j,G j→j<B)(ht:∀x∈gy,x∈trs'):wL w' B b S G trs' q' vl' L came fresh lv cv fv T T2:=
 ⟨hr,h.l.kp k hG ht,h.c.kp k hG ht,h.f.kp k (.inl (by decide)),h.Pz,h.a1,h.a2⟩
theorem lF.kpq(h:lF B b gy S q w vl){B':Nat}{Ts:List TypeId}(k:Kp B' Ts w w')(h1:RT∉Ts)(h2:49∉Ts):lF B b gy S q w' vl:=
 ⟨h.blk.kp k (.inr h1),h.le,h.nodes.kp k (.inl h2),h.small,h.jR,fun t ht=>⟨(h.kept t ht).1.kp k (.inl h2),(h.kept t ht).2⟩⟩
theorem wL.aeC(h:wL w B b S G gy q vl L came fresh lv cv fv T T2)(hG:∀j,G j→j<B){e:dI}{t:Value×Value×Value}(hka:Keeps Non w wa)(hE:Gs w B G gy e t)(hf:∀k,t.2.2.ownBlock=some k→fv.ownBlock≠some k){cv':Value}
 (hs:Sl w3 0 FT 3 cv' (T2.length+1) (trip T2++[t.1,t.2.1,t.2.2])) (hk:Kp 0 [FT] wa w3) (hkk:Keeps (jC cv) wa w3) (ho:cv'.ownBlock=cv.ownBlock∨cv'.ownBlock=some wa.heap.size) (hB:B≤w.heap.size):
 wL w3 B b S G gy q vl L (came++[e]) fresh lv cv' fv T (T2++[t]):=by
 have hrd:∀(v:Value) (size n:Nat) (xs:List Value),Rd w size v n xs→(∀k,v.ownBlock=some k→G k)→Rd w3 size v n xs:=fun v size n xs hv hg=>(hv.non hka).keeps hkk fun j hj hc=>by
  have h1:=hG j (hg j hj)
  have h2:=h.Pz j hc
  omega
 have hsl:∀(v:Value) (n:Nat) (xs:List Value),Sl w B 9 1 v n xs→Sl w3 B 9 1 v n xs:=fun v n xs hs=>(hs.kp (Kp.aI (B:=0) (Ts:=[]) hka) (.inl (by simp))).kp hk (.inl (by decide))
 have aeD:∀k,lv.ownBlock=some k→k<w.heap.size:=fun k hk=>h.l.sl.pR hk
 have Z9:∀k,cv'.ownBlock=some k→B≤k:=fun k hk=>by
  rcases ho with e1|e1
  ·exact h.Pz k (e1.symm.trans hk)
  ·have:=e1.symm.trans hk
   cases this
   exact Nat.le_trans hB hka.size
 have hrr:=(h.rd.keeps hka).kpq hk (by decide) (by decide)
 refine⟨hrr,⟨?_,h.l.own,h.l.len,fun i e' t' he ht=>(h.l.ents i e' t' he ht).turn (fun x hx=>hx) hrd fun v n xs _ hs=>hsl v n xs hs⟩,⟨?_,fun k hk=>.inr (Z9 k hk),?_,fun i e' t' he ht=>?_⟩,hsl _ _ _ h.f,Z9,fun k hk e2=>?_,fun t' ht k hk=>?_⟩
 ·refine(h.l.sl.kp (Kp.aI (B:=0) (Ts:=[]) hka) (.inl (by simp))).keep fun bb c hbb _ hblk=>hblk.keeps hkk fun hc=>h.a1 bb hc hbb
 ·rw[List.length_append,List.length_singleton]
  have e1:trip (T2++[t])=trip T2++[t.1,t.2.1,t.2.2]:=by simp[trip]
  rw[e1]
  exact hs
 ·simp[h.c.len]
 ·by_cases hi:i<came.length
  ·rw[List.getElem?_append_left hi] at he
   rw[List.getElem?_append_left (by rw[h.c.len];exact hi)] at ht
   exact(h.c.ents i e' t' he ht).turn (fun x hx=>hx) hrd fun v n xs _ hs=>hsl v n xs hs
  ·have hil:i=came.length:=by
    have:=(List.getElem?_eq_some_iff.1 he).1
    simp at this
    omega
   subst hil
   rw[List.getElem?_append_right (Nat.le_refl _)] at he
   rw[List.getElem?_append_right (by rw[h.c.len];exact Nat.le_refl _),h.c.len] at ht
   simp only[Nat.sub_self,List.getElem?_cons_zero,Option.some.injEq] at he ht
   subst he ht
   exact hE.turn (fun x hx=>hx) hrd fun v n xs _ hs=>hsl v n xs hs
 ·rcases ho with e1|e1
  ·exact h.a1 k (e1.symm.trans hk) e2
  ·have h1:=e1.symm.trans hk
   cases h1
   have h2:=aeD _ e2
   have:=hka.size
   omega
 ·rw[←List.append_assoc] at ht
  rcases List.mem_append.1 ht with ht|ht
  ·exact h.a2 t' ht k hk
  ·obtain rfl:=List.mem_singleton.1 ht
   exact hf k hk
theorem wL.put(h:wL w B b S G gy q vl L came fresh lv cv fv T T2)(hG:∀j,G j→j<B){e:dI}{t:Value×Value×Value}(hE:Gs w B G gy e t)(hf:∀k,t.2.2.ownBlock=some k→fv.ownBlock≠some k)(hk:Keeps Non w w'){lv':Value}
 (hs:Sl w' w.heap.size FT 3 lv' (T.length+1) (trip (T.take (mO L e.path)++t :: T.drop (mO L e.path)))) (hB:B≤w.heap.size):wL w' B b S G gy q vl (ou L e) came fresh lv' cv fv (T.take (mO L e.path)++t :: T.drop (mO L e.path)) T2:=by
 have hkp:Kp B jd w w':=Kp.aI hk
 have hq:=Qp L e.path
 have hl:=h.l.len
 have hlen:(T.take (mO L e.path)++t :: T.drop (mO L e.path)).length=T.length+1:=by simp;omega
 have h2:=h.kp hkp (h.rd.keeps hk) hG (fun x hx=>hx)
 have hE2:Gs w' B G gy e t:=hE.turn (fun x hx=>hx) (fun v size n xs hv _=>hv.non hk) (fun v n xs _ hs=>hs.kp hkp (.inl (by decide)))
 refine⟨h2.rd,⟨by rw[hlen];exact hs.mono (Nat.zero_le _),fun k hk=>.inr (Nat.le_trans hB (hs.own k hk).1),by rw[hlen,ni,hl],fun i e' x' he hx'=>?_⟩,h2.c,h2.f,h2.Pz,fun k hk e2=>?_,fun t' ht k hk=>?_⟩
 ·rw[Ql] at he
  generalize mO L e.path=p at *
  by_cases hi:i<p
  ·rw[List.getElem?_append_left (by rw[List.length_take];omega),List.getElem?_take,if_pos hi] at he hx'
   exact h2.l.ents i e' x' he hx'
  ·rw[List.getElem?_append_right (by rw[List.length_take];omega),List.length_take] at he hx'
   rw[Nat.min_eq_left hq] at he
   rw[Nat.min_eq_left (by omega)] at hx'
   cases hd:i-p with
   |zero=>
    rw[hd] at he hx'
    simp only[List.getElem?_cons_zero,Option.some.injEq] at he hx'
    subst he hx'
    exact hE2
   |succ j=>
    rw[hd] at he hx'
    simp only[List.getElem?_cons_succ,List.getElem?_drop] at he hx'
    exact h2.l.ents (p+j) e' x' he hx'
 ·have h3:=(hs.own k e2).1
  have h4:=h.c.sl.pR hk
  omega
 ·rcases List.mem_append.1 ht with ht|ht
  ·rcases List.mem_append.1 ht with ht|ht
   ·exact h.a2 t' (List.mem_append.2 (.inl (List.mem_of_mem_take ht))) k hk
   ·rcases List.mem_cons.1 ht with rfl|ht
    ·exact hf k hk
    ·exact h.a2 t' (List.mem_append.2 (.inl (List.mem_of_mem_drop ht))) k hk
  ·exact h.a2 t' (List.mem_append.2 (.inr ht)) k hk
theorem wL.ais(h:wL w B b S G gy q vl L came fresh lv cv fv T T2)(hG:∀j,G j→j<B){p:List UInt8}(hka:Keeps Non w wa){fv':Value}
 (hs:Sl w3 B 9 1 fv' (fresh.length+1) (bf fresh++[sv p])) (hk:Kp B [9] wa w3) (hkk:Keeps (jC fv) wa w3) (ho:fv'.ownBlock=fv.ownBlock∨fv'.ownBlock=some wa.heap.size):
 wL w3 B b S G gy q vl L came (fresh++[p]) lv cv fv' T T2:=by
 have hrd:∀(v:Value) (size n:Nat) (xs:List Value),Rd w size v n xs→(∀k,v.ownBlock=some k→G k)→Rd w3 size v n xs:=fun v size n xs hv hg=>(hv.non hka).keeps hkk fun j hj hc=>by
  have h1:=hG j (hg j hj)
  have h2:=(h.f.own j hc).1
  omega
 have hsl:∀(v:Value) (n:Nat) (xs:List Value),(∀k,v.ownBlock=some k→fv.ownBlock≠some k)→Sl w B 9 1 v n xs→Sl w3 B 9 1 v n xs:=fun v n xs ha hs=>(hs.kp (Kp.aI (B:=0) (Ts:=[]) hka) (.inl (by simp))).keep fun bb c hbb _ hblk=>hblk.keeps hkk fun hc=>ha bb hbb hc
 have hrr:=(h.rd.keeps hka).kpq hk (by decide) (by decide)
 have htl:∀(v:Value) (T:List (Value×Value×Value)),Sl w 0 FT 3 v T.length (trip T)→Sl w3 0 FT 3 v T.length (trip T):=fun v T hs=>(hs.kp (Kp.aI (B:=0) (Ts:=[]) hka) (.inl (by simp))).kp hk (.inl (by decide))
 refine⟨hrr,⟨htl _ _ h.l.sl,h.l.own,h.l.len,fun i e' t' he ht=>(h.l.ents i e' t' he ht).turn (fun x hx=>hx) hrd fun v n xs hv hs=>hsl v n xs (by rw[hv];exact h.a2 t' (List.mem_append.2 (.inl (List.mem_of_getElem? ht)))) hs⟩,
  ⟨htl _ _ h.c.sl,h.c.own,h.c.len,fun i e' t' he ht=>(h.c.ents i e' t' he ht).turn (fun x hx=>hx) hrd fun v n xs hv hs=>hsl v n xs (by rw[hv];exact h.a2 t' (List.mem_append.2 (.inr (List.mem_of_getElem? ht)))) hs⟩,?_,h.Pz,h.a1,fun t' ht k hk e2=>?_⟩
 ·rw[List.length_append,List.length_singleton]
  have e1:bf (fresh++[p])=bf fresh++[sv p]:=by simp[bf]
  rw[e1]
  exact hs
 ·rcases ho with e1|e1
  ·exact h.a2 t' ht k hk (e1.symm.trans e2)
  ·have h1:=e1.symm.trans e2
   have h2:k<w.heap.size:=by
    have key:∀(L':aH) (v':Value) (T':List (Value×Value×Value)),Ye w B G gy L' v' T'→B≤w.heap.size→t'∈T'→k<w.heap.size:=fun L' v' T' hr hBs htm=>by
     obtain⟨i,hi,hit⟩:=List.getElem_of_mem htm
     have hiL:i<L'.length:=by rw[←hr.len];exact hi
     have hE:=hr.ents i _ t' (List.getElem?_eq_getElem hiL) (by rw[List.getElem?_eq_getElem hi,hit])
     rcases hE.refs with⟨-,g⟩|g
     ·have:=hG k (g k hk)
      omega
     ·exact g.pR hk
    have hBs:B≤w.heap.size:=by
     have h3:=h.rd.le
     have h4:=h.rd.blk.lt
     omega
    rcases List.mem_append.1 ht with ht|ht
    ·exact key _ _ _ h.l hBs ht
    ·exact key _ _ _ h.c hBs ht
   cases h1
   have:=hka.size
   omega
end
end Go.Proofs.YtdkogijdfgfpeaaGreatDoor
