/- The document's store: its paths; an entry. -/
import Derived.Test.YtdkogijdfgfpeaaGreatDoorZMap
import Derived.Test.YtdkogijdfgfpeaaGreatDoorZGet
import Derived.Test.YtdkogijdfgfpeaaGreatDoorZClosP
import Derived.Test.YtdkogijdfgfpeaaGreatDoorZPackw
import Derived.Deep.RegionHeld3
import Derived.Test.YtdkogijdfgfpeaaGreatDoorZQIns
import Derived.Test.YtdkogijdfgfpeaaGreatDoorKeys
set_option linter.unusedVariables false
set_option maxHeartbeats 3200000
set_option maxRecDepth 100000
namespace Go.Proofs.YtdkogijdfgfpeaaGreatDoor
open Go Go.RowKit
theorem OG{G:Nat→Prop}{r:Nat}{L:aH}(w:World)(h:CO w G r L)(Jg:L.length≤10):
 Calls Tryz.prog 66 #[pv r] w fun e w'=>∃v,e=.returned v∧Sl w' w.heap.size 9 1 v L.length (bf (L.map dI.path))∧Keeps Non w w':=by
 obtain⟨vq,T,g1,g2⟩:=h.mem
 obtain⟨qa,qc,rfl,hq1,hq2⟩:=g2.sl.shape
 have Cc:=Lib.hid g2
 have OA:=Lib.hid g1
 have yM:Hid (T.length=L.length):=g2.len
 have aaB:T.length≤10:=by have:=g2.len;omega
 have cr:=g1.cell 0
 simp only[List.getElem?_toArray,List.getElem?_cons_zero] at cr
 unfold maxLen at hq2
 clear h g1 g2
 unfold pv
 go_enter Tryz.func66,Tryz.ntmps66
 go_wp2_with fail
 go_loopg [3,11] T.length (fun gk ov iv wr=>∃k:Nat,gk=T.length-k∧k≤T.length∧iv=.int .i64 k∧Hid (Keeps Non w wr)∧Hid (Sl wr w.heap.size 9 1 ov k (bf ((L.map dI.path).take k))))
 case atStart=>exact⟨0,rfl,Nat.zero_le _,rfl,Keeps.refl _ _,Sl.nil _ _ _ _⟩
 case round=>
  clear cr
  obtain⟨k,rfl,hk,rfl,HK,HO⟩:=hrel
  obtain⟨oa,oc,rfl,-,-⟩:=HO.out.shape
  by_cases hlt:k<T.length
  ·have hQ:=Cc.out.non HK.out
   obtain⟨b,off,cp,hsh,-,-,-,hbl,hcc,-⟩:=hQ.rd.pos (by omega)
   cases hsh
   obtain⟨x,hx⟩:∃x,T[k]? =some x:=⟨_,List.getElem?_eq_getElem hlt⟩
   obtain⟨e,he⟩:∃e,L[k]? =some e:=⟨_,List.getElem?_eq_getElem (by rw[←yM.out];exact hlt)⟩
   obtain⟨t1,t2,t3⟩:=o9 T k x hx
   have hX:=hQ.ents k e x he hx
   have c0:=(hcc (k*3) (by omega)).trans t1
   have c1:=(hcc (k*3+1) (by omega)).trans t2
   have c2:=(hcc (k*3+2) (by omega)).trans t3
   obtain⟨x0,x1,x2⟩:=x
   have hp0:=hX.path
   simp only at hp0 c0 c1 c2
   subst hp0
   obtain⟨xa1,BH,hx1,-,-⟩:=hX.tree.shape
   obtain⟨yO,yP,hx2,-,-⟩:=hX.refs.shape
   simp only at hx1 hx2
   subst hx1 hx2
   rw[←Nat.add_assoc] at c1 c2
   unfold sv at c0
   have HE:=Lib.hid he
   obtain⟨i1,hj,hj0,hj1,hj2⟩:=info_parts lM
   have hsl:=HO.out
   have hsz:=HK.out.size
   clear hcc t1 t2 t3 hX hQ hx he
   go_wp2_with (at_builtin;refine ay rfl _ _ 26 26 rfl 9 i1 _ 1 16 Tryz.underlying26 hj hj0 hj1 hj2 rfl w.heap.size _ _ _ rfl _ rfl 1 [.string ⟨e.path.toArray⟩] ?d11 ((hsl.alloc _).alloc _) ?d12 ?d13 ?Gg ?_)
   try (case d11=>simp;omega)
   case d12=>
    have h1:=Sl.dM (wr.alloc (.cells #[.string ⟨e.path.toArray⟩,.slice xa1 e.tree.length BH,.slice yO e.refs.length yP] 165)) 0 (Nat.zero_le _) 9 1 1 [.string ⟨e.path.toArray⟩] rfl (by simp[maxLen])
    have hz:(wr.alloc (.cells #[.string ⟨e.path.toArray⟩,.slice xa1 e.tree.length BH,.slice yO e.refs.length yP] 165)).heap.size=wr.heap.size+1:=by simp
    rw[hz] at h1
    exact Src.kP Tryz.underlying26 h1 (by intro u hu;simp only[List.mem_cons,List.not_mem_nil,or_false] at hu;subst hu;rfl)
   case d13=>unfold maxLen;omega
   case Gg=>omega
   intro ao cc w8 hs8 hk8 uG hb8
   have KR:Hid (Sl w8 w.heap.size 9 1 (.slice ao (k+1) cc) (k+1) (bf ((L.map dI.path).take (k+1)))):=by
    show Sl _ _ _ _ _ _ _
    have:bf ((L.map dI.path).take (k+1))=bf ((L.map dI.path).take k)++[.string ⟨e.path.toArray⟩]:=by
     rw[List.take_add_one,List.getElem?_map,HE.out]
     simp[bf,sv]
    rw[this]
    first |exact hs8|simpa using hs8
   have Ce:Hid (Keeps Non w w8):=((HK.out.alloc _).alloc _).trans uG fun j hj=>.inr (hsl.own j hj).1
   clear hs8 hk8 uG hb8 hsl hsz hj hj0 hj1 hj2 c0 c1 c2
   go_wp2_with fail
   go_roundg (T.length-(k+1))
   case measure=>omega
   case rel=>exact⟨k+1,rfl,by omega,by go_num,Ce,KR⟩
  ·have hk2:T.length=k:=by omega
   subst hk2
   go_wp2_with fail
   go_ret
   refine⟨.slice oa T.length oc,rfl,?_,HK.out⟩
   have h1:=HO.out
   rw[List.take_of_length_le (by rw[List.length_map];exact Nat.le_of_eq yM.out.symm)] at h1
   rw[yM.out] at h1 ⊢
   exact h1
def D5(w:World)(L:aH)(name:List UInt8)(ed:Ending)(w':World):Prop:=
 (aA L name=none∧ed=.returned (.tuple #[.agg #[.slice none 0 0,.slice none 0 0,.string ⟨#[]⟩],.bool false])∧Keeps Non w w')∨
 ∃e vt vr,aA L name=some e∧ed=.returned (.tuple #[.agg #[vt,vr,.string (sumOf (aJ e.tree))],.bool true])∧Rd w' 3 vt e.tree.length (ak e.tree)∧Rd w' 1 vr e.refs.length (bf e.refs)∧Keeps Non w w'
theorem Keeps.Qq{S:Nat→Prop}{w w':World}(h:Keeps Non w w'):Keeps S w w':=h.mono fun _ _ h=>h.elim
theorem Keeps.acW{w w':World}{rb:Nat}{a b c:Value}(h:Keeps Non w w'):Keeps (One rb) w (((w'.setCell ⟨rb,0,none⟩ a).setCell ⟨rb,1,none⟩ b).setCell ⟨rb,2,none⟩ c):=
 (((show Keeps (One rb) w w' from h.Qq).setCell ⟨rb,0,none⟩ a (.inl rfl)).setCell ⟨rb,1,none⟩ b (.inl rfl)).setCell ⟨rb,2,none⟩ c (.inl rfl)
theorem Vu{G:Nat→Prop}{r:Nat}{L:aH}(w:World)(h:CO w G r L)(hok:bK L)(hfl:∀e∈L,mM e)(name:ByteArray):
 Calls Tryz.prog 101 #[pv r,.string name] w (D5 w L name.data.toList):=by
 have HQ:=Lib.hid h
 have vg:=Lib.hid hok
 have Rq:=Lib.hid hfl
 clear h hok hfl
 unfold pv
 go_enter Tryz.func101,Tryz.ntmps101
 go_upto_region 1 with(fail)
 have hk0:Keeps Non w (w.alloc (.cells #[.slice none 0 0,.slice none 0 0,.string ⟨#[]⟩] 52)):=(Keeps.refl _ _).alloc _
 have hb0:=aS.new w #[.slice none 0 0,.slice none 0 0,.string ⟨#[]⟩] 52
 obtain⟨W,hW⟩:∃W,W=w.alloc (.cells #[.slice none 0 0,.slice none 0 0,.string ⟨#[]⟩] 52):=⟨_,rfl⟩
 obtain⟨rb,hrb⟩:∃rb,rb=w.heap.size:=⟨_,rfl⟩
 rw[←hW] at hk0 hb0
 rw[←hrb] at hb0
 rw[←hW,←hrb]
 have vJ:=Lib.hid hk0
 have HB0:=Lib.hid hb0
 have xJ:=Lib.hid hrb
 obtain⟨vq,T,g1,g2⟩:=(HQ.out.non hk0).mem
 obtain⟨qa,qc,rfl,hq1,hq2⟩:=g2.sl.shape
 have Cc:=Lib.hid g2
 have OA:=Lib.hid g1
 have yM:Hid (T.length=L.length):=g2.len
 have cr:=g1.cell 0
 simp only[List.getElem?_toArray,List.getElem?_cons_zero] at cr
 unfold maxLen at hq2
 have oO:=Cc.out.at name
 clear hW hrb hk0 hb0 g1 g2
 rcases lN L name.data.toList with⟨hf,hi⟩|⟨i,e,hLi,hel,oz,hi,hil,hf⟩
 ·have wX:=Lib.hid hf
  rw[hi] at oO
  have HAT:=Lib.hid oO
  clear oO hi hf
  go_wp2_with fail
  refine HAT.out.mono ?_
  rintro ed w9 ⟨rfl,hk9⟩
  have yF:Hid (Keeps Non W w9):=hk9
  have zX:=HB0.out.keeps hk9 fun h=>h
  have Vw:=Lib.hid zX
  have r0:=zX.cell 0
  have r1:=zX.cell 1
  have r2:=zX.cell 2
  have f0:=zX.free 0
  have f1:=zX.free 1
  have f2:=zX.free 2
  simp only[List.getElem?_toArray,List.getElem?_cons_zero,List.getElem?_cons_succ] at r0 r1 r2
  clear hk9 cr HAT zX
  go_wp2_with fail
  have hb3:=((Vw.out.set 0 (.slice none 0 0)).set 1 (.slice none 0 0)).set 2 (.string ⟨#[]⟩)
  have hk3:Keeps Non w (((w9.setCell ⟨rb,0,none⟩ (.slice none 0 0)).setCell ⟨rb,1,none⟩ (.slice none 0 0)).setCell ⟨rb,2,none⟩ (.string ⟨#[]⟩)):=(((vJ.out.tn yF.out).setCell _ _ (.inr (Nat.le_of_eq xJ.out.symm))).setCell _ _ (.inr (Nat.le_of_eq xJ.out.symm))).setCell _ _ (.inr (Nat.le_of_eq xJ.out.symm))
  generalize ((w9.setCell ⟨rb,0,none⟩ (.slice none 0 0)).setCell ⟨rb,1,none⟩ (.slice none 0 0)).setCell ⟨rb,2,none⟩ (.string ⟨#[]⟩)=w3 at *
  have t0:=hb3.cell 0
  have t1:=hb3.cell 1
  have t2:=hb3.cell 2
  simp at t0 t1 t2
  refine bodyPost_ret (v:=.tuple #[.agg #[.slice none 0 0,.slice none 0 0,.string ⟨#[]⟩],.bool false]) (by simp[results,Tryz.results101,go_sem,t0,t1,t2]) rfl ?_
  exact .inl ⟨wX.out,rfl,hk3⟩
 ·have hfe:aA L name.data.toList=some e:=by
   cases hfe:aA L name.data.toList with
   |none=>rw[hfe] at hf;cases hf
   |some e'=>
    obtain⟨he',hep'⟩:=jV hfe
    rw[vg.out.uniq he' hel (hep'.trans oz.symm)]
  have HFE:=Lib.hid hfe
  rw[hi] at oO
  have HAT:=Lib.hid oO
  have dn:decide ((i:Int)<0)=false:=decide_eq_false (by omega)
  have hiT:i<T.length:=by rw[yM.out];exact hil
  obtain⟨x,hx⟩:∃x,T[i]? =some x:=⟨_,List.getElem?_eq_getElem hiT⟩
  have HX:=Lib.hid (Cc.out.ents i e x hLi hx)
  have HXT:=Lib.hid hx
  have Vs:=Lib.hid (Rq.out e hel)
  have HG2:=Lib.hid (vg.out.good e hel)
  clear oO hi hf hfe hx hLi oz hel
  go_wp2_with fail
  refine HAT.out.mono ?_
  rintro ed w9 ⟨rfl,hk9⟩
  have yF:Hid (Keeps Non W w9):=hk9
  clear hk9 cr HAT
  have ag1:=Lib.hid (OA.out.keeps yF.out fun h=>h)
  have Vx:=Lib.hid (Cc.out.non yF.out)
  have Vw:=Lib.hid (HB0.out.keeps yF.out fun h=>h)
  obtain⟨b,off,cp,hsh,-,-,-,hbl,hc,-⟩:=Vx.out.rd.pos (by omega)
  cases hsh
  obtain⟨t1,t2,t3⟩:=o9 T i x HXT.out
  have Ug:=HX.out.keeps yF.out fun _ _ h=>h
  have c1:=(hc (i*3+1) (by omega)).trans t2
  have c2:=(hc (i*3+2) (by omega)).trans t3
  obtain⟨x0,x1,x2⟩:=x
  simp only at c1 c2
  obtain⟨xa1,BH,hx1,-,-⟩:=Ug.tree.shape
  obtain⟨yO,yP,hx2,-,-⟩:=Ug.refs.shape
  simp only at hx1 hx2
  subst hx1 hx2
  rw[←Nat.add_assoc] at c1 c2
  have aln:r<w.heap.size:=HQ.out.lt r HQ.out.own
  have hblt:b<w.heap.size:=HQ.out.lt b (Vx.out.own b rfl).1
  have iD:Hid (∀wx,Keeps (One rb) w9 wx→wx.cell? ⟨r,0,none⟩=some (.slice (some ⟨b,off,none⟩) T.length qc)∧wx.cell? ⟨b,off+i*3+1,none⟩=some (.slice xa1 e.tree.length BH)∧wx.cell? ⟨b,off+i*3+2,none⟩=some (.slice yO e.refs.length yP)):=fun wx hk=>by
   have hrb:=xJ.out
   have h1:=(ag1.out.keeps hk fun h=>by have:r=rb:=h;omega).cell 0
   simp only[List.getElem?_toArray,List.getElem?_cons_zero] at h1
   refine⟨h1,?_,?_⟩
   ·rw[World.cell?,hk.block b hbl fun h=>by have:b=rb:=h;omega]
    exact c1
   ·rw[World.cell?,hk.block b hbl fun h=>by have:b=rb:=h;omega]
    exact c2
  obtain⟨q0,q1,q2⟩:=iD.out w9 (Keeps.refl _ _)
  have hbb:=Vw.out
  have r0:=hbb.cell 0
  have r1:=hbb.cell 1
  have r2:=hbb.cell 2
  have f0:=hbb.free 0
  have f1:=hbb.free 1
  have f2:=hbb.free 2
  simp only[List.getElem?_toArray,List.getElem?_cons_zero,List.getElem?_cons_succ] at r0 r1 r2
  have HTR:=Lib.hid Ug.tree
  have KX:=Lib.hid Ug.refs
  have vF:Hid (∀wx,Keeps Non w9 wx→Calls Tryz.prog 105 #[.slice xa1 e.tree.length BH] wx fun ed w'=>ed=.returned (.string ⟨(aJ e.tree).toArray⟩)∧Keeps Non wx w'):=fun wx hk=>sO _ e.tree wx (HTR.out.non hk) Vs.out.nodes HG2.out.2.1 Vs.out.pack
  have HSM:Hid (∀wx,Calls Tryz.prog 107 #[.string ⟨(aJ e.tree).toArray⟩] wx fun ed w'=>ed=.returned (.string (sumOf (aJ e.tree)))∧Keeps Non wx w'):=fun wx=>(DK _ wx (by show(aJ e.tree).toArray.size≤_;have:=Vs.out.pack;simp[maxLen];omega))
  have p1:(0:Int)≤(i:Int):=by omega
  have p2:(i:Int)<(T.length:Int):=by omega
  clear hc t1 t2 t3 Ug hbb c1 c2
  go_upto_region 4 with(fail)
  have hc:Keeps Non w9 w9:=Keeps.refl _ _
  go_region_held3 (fun w'=>w'.cell? ⟨r,0,none⟩=some (.slice (some ⟨b,off,none⟩) T.length qc)∧w'.cell? ⟨b,off+i*3+1,none⟩=some (.slice xa1 e.tree.length BH)∧w'.cell? ⟨b,off+i*3+2,none⟩=some (.slice yO e.refs.length yP)) (first|exact⟨q0,q1,q2⟩|exact iD.out _ (Keeps.acW hc)|exact iD.out _ (Keeps.Qq hc)|exact iD.out _ (Keeps.Qq hc).drew) (first
   |(go_at_call 105
     refine(vF.out _ (by first|exact hc|exact hc.drew)).mono ?_
     rintro ed w' ⟨rfl,hk⟩
     replace hc:=Keeps.tn hc (by first|exact hk|exact hk.un)
     clear hk
     obtain⟨q0,q1,q2⟩:=iD.out _ (Keeps.mono hc fun _ _ h=>h.elim))
   |(go_at_call 107
     refine(HSM.out _).mono ?_
     rintro ed w' ⟨rfl,hk⟩
     replace hc:=Keeps.tn hc (by first|exact hk|exact hk.un)
     clear hk
     obtain⟨q0,q1,q2⟩:=iD.out _ (Keeps.mono hc fun _ _ h=>h.elim)
     have hbb:=Vw.out.keeps hc fun h=>h
     have r0:=hbb.cell 0
     have r1:=hbb.cell 1
     have r2:=hbb.cell 2
     have f0:=hbb.free 0
     have f1:=hbb.free 1
     have f2:=hbb.free 2
     simp only[List.getElem?_toArray,List.getElem?_cons_zero,List.getElem?_cons_succ] at r0 r1 r2))
  all_goals (
   have hb3:=(((Vw.out.keeps hc fun h=>h).set 0 (.slice xa1 e.tree.length BH)).set 1 (.slice yO e.refs.length yP)).set 2 (.string (sumOf (aJ e.tree)))
   have hk3:Keeps Non w (((w'.setCell ⟨rb,0,none⟩ (.slice xa1 e.tree.length BH)).setCell ⟨rb,1,none⟩ (.slice yO e.refs.length yP)).setCell ⟨rb,2,none⟩ (.string (sumOf (aJ e.tree)))):=((((vJ.out.tn yF.out).tn hc).setCell _ _ (.inr (Nat.le_of_eq xJ.out.symm))).setCell _ _ (.inr (Nat.le_of_eq xJ.out.symm))).setCell _ _ (.inr (Nat.le_of_eq xJ.out.symm))
   have hset:Keeps (One rb) w9 (((w'.setCell ⟨rb,0,none⟩ (.slice xa1 e.tree.length BH)).setCell ⟨rb,1,none⟩ (.slice yO e.refs.length yP)).setCell ⟨rb,2,none⟩ (.string (sumOf (aJ e.tree)))):=Keeps.acW hc
   have ht3:=HTR.out.keeps hset fun j hj h=>by have h1:=HQ.out.lt j (HX.out.U6 j hj).1;have h2:=xJ.out;have:j=rb:=h;omega
   have hr3:=KX.out.keeps hset fun j hj h=>by have h1:=HQ.out.lt j (HX.out.U7 j hj).1;have h2:=xJ.out;have:j=rb:=h;omega
   generalize ((w'.setCell ⟨rb,0,none⟩ (.slice xa1 e.tree.length BH)).setCell ⟨rb,1,none⟩ (.slice yO e.refs.length yP)).setCell ⟨rb,2,none⟩ (.string (sumOf (aJ e.tree)))=w3 at *
   have t0:=hb3.cell 0
   have t1:=hb3.cell 1
   have t2:=hb3.cell 2
   simp at t0 t1 t2
   have HT3:=Lib.hid ht3
   have HR3:=Lib.hid hr3
   have kL:=Lib.hid hk3
   clear hb3 hk3 hset ht3 hr3 hc q0 q1 q2 r0 r1 r2 f0 f1 f2
   go_wp2_with fail
   refine bodyPost_ret (v:=.tuple #[.agg #[.slice xa1 e.tree.length BH,.slice yO e.refs.length yP,.string (sumOf (aJ e.tree))],.bool true]) (by simp[results,Tryz.results101,go_sem,t0,t1,t2]) rfl ?_
   exact .inr ⟨e,_,_,HFE.out,rfl,HT3.out,HR3.out,kL.out⟩)
end Go.Proofs.YtdkogijdfgfpeaaGreatDoor
namespace Go.Proofs.YtdkogijdfgfpeaaGreatDoor
open Go Go.RowKit
theorem ag2{w w':World}{L:aH}{nm:List UInt8}{ed:Ending}(h:GetPost w L nm ed w'):
 ∃(ta ra:Option Addr) (tc rc:Nat) (T:List Node) (R:List (List UInt8)) (sm:ByteArray) (er:Int),ed=.returned (.tuple #[.agg #[.slice ta T.length tc,.slice ra R.length rc,.string sm],.int .i64 er])∧
  Sl w' w.heap.size 49 3 (.slice ta T.length tc) T.length (ak T)∧Sl w' w.heap.size 9 1 (.slice ra R.length rc) R.length (bf R)∧Keeps Non w w'∧
  ((aA L nm=none∧T=[]∧R=[]∧sm=⟨#[]⟩∧er=15)∨∃e,aA L nm=some e∧T=e.tree∧R=e.refs∧sm=sumOf (aJ e.tree)∧er=0):=by
 rcases h with⟨hf,rfl,hk⟩|⟨e,vt,vr,hf,rfl,h1,h2,hk⟩
 ·exact⟨none,none,0,0,[],[],_,_,rfl,Sl.nil _ _ _ _,Sl.nil _ _ _ _,hk,.inl ⟨hf,rfl,rfl,rfl,rfl⟩⟩
 ·obtain⟨a1,c1,rfl,-,-⟩:=h1.shape
  obtain⟨a2,c2,rfl,-,-⟩:=h2.shape
  exact⟨a1,a2,c1,c2,_,_,_,_,rfl,h1,h2,hk,.inr ⟨e,hf,rfl,rfl,rfl,rfl⟩⟩
theorem acX{w w':World}{L:aH}{nm:List UInt8}{ed:Ending}(h:D5 w L nm ed w'):
 ∃(ta ra:Option Addr) (tc rc:Nat) (T:List Node) (R:List (List UInt8)) (sm:ByteArray) (ok:Bool),ed=.returned (.tuple #[.agg #[.slice ta T.length tc,.slice ra R.length rc,.string sm],.bool ok])∧
  Rd w' 3 (.slice ta T.length tc) T.length (ak T)∧Rd w' 1 (.slice ra R.length rc) R.length (bf R)∧Keeps Non w w'∧
  ((aA L nm=none∧ok=false)∨∃e,aA L nm=some e∧T=e.tree∧R=e.refs∧sm=sumOf (aJ e.tree)∧ok=true):=by
 rcases h with⟨hf,rfl,hk⟩|⟨e,vt,vr,hf,rfl,h1,h2,hk⟩
 ·exact⟨none,none,0,0,[],[],_,_,rfl,(Sl.nil w' 0 49 3).rd,(Sl.nil w' 0 9 1).rd,hk,.inl ⟨hf,rfl⟩⟩
 ·obtain⟨a1,c1,rfl,-,-⟩:=h1.shape
  obtain⟨a2,c2,rfl,-,-⟩:=h2.shape
  exact⟨a1,a2,c1,c2,_,_,_,_,rfl,h1,h2,hk,.inr ⟨e,hf,rfl,rfl,rfl,rfl⟩⟩
theorem OH{l:List Node}(h1:bH l= -1):l.length≤1099511627776:=by
 unfold bH at h1
 split at h1
 ·cases h1
 ·have:=wV l 0 [] h1 (by omega)
  omega
abbrev Vy:TypeId:=52
theorem Vz(X:List Part)(D:LD)(w:World)(p:Pr)(hp:p∈D.ps)(nm:List UInt8)(h:Parts (X++au D) w)(hn:nm.length≤1099511627776)(hnl:D.ls.length≤1000000)(hnt:D.ts.length≤1000000):
 Calls Tryz.prog 64 #[pv D.b,.agg #[pv p.x,pv p.r],sv nm] w fun e w'=>e=.returned (.bool true)∧∃D',D.Next D'∧Parts (X++au D') w':=by
 obtain⟨px,s,r,F,G,L⟩:=p
 obtain⟨nb,hnb⟩:∃nb,w.heap.size=nb:=⟨_,rfl⟩
 have KE:Hid (Parts (aj nb #[pv px,pv r] ji :: (X++au D)) (w.alloc (.cells #[pv px,pv r] ji))):=by
  rw[←hnb]
  exact h.blk _ _
 clear h
 have lY:Hid ((⟨px,s,r,F,G,L⟩:Pr)∈D.ps):=hp
 clear hp
 unfold pv sv at *
 go_enter Tryz.func64,Tryz.ntmps64
 go_upto_region 1 with(fail)
 generalize w.alloc (.cells #[.pointer (some ⟨px,0,none⟩),.pointer (some ⟨r,0,none⟩)] 132)=w1 at *
 clear hnb
 have hb1:aS w1 nb #[.pointer (some ⟨px,0,none⟩),.pointer (some ⟨r,0,none⟩)] ji:=KE.out.head
 have b0:=hb1.cell 0
 have hpa:=lX (X:=aj nb _ ji :: X) KE.out lY.out
 have b1:=hpa.box.cell 0
 unfold pv at b1
 simp only[List.getElem?_toArray,List.getElem?_cons_zero] at b0 b1
 have HST:=Lib.hid hpa.st
 have qg:=Lib.hid hpa.st.fit
 have vg:=Lib.hid hpa.st.ok
 clear hb1 hpa
 go_wp2_with fail
 refine(get_any w1 HST.out nm hn).mono ?_
 rintro e w2 hg
 obtain⟨ta,ra,tc,rc,T,R,sm,er,rfl,hT,hR,hk2,hcase⟩:=ag2 hg
 have HP2:Hid (Parts (aG uQ 3 (.slice ta T.length tc) T.length (ak T) :: aG iw 1 (.slice ra R.length rc) R.length (bf R) :: ((aj nb #[.pointer (some ⟨px,0,none⟩),.pointer (some ⟨r,0,none⟩)] ji :: X)++au D)) w2):=KE.out.two hk2 hT hR (by decide)
 have ZH:=Lib.hid hcase
 have yM:Hid (T.length≤1099511627776∧R.length≤1099511627776):=by
  show _∧_
  rcases hcase with⟨_,rfl,rfl,_,_⟩|⟨e,hf,rfl,rfl,_,_⟩
  ·simp
  ·have hel:=(jV hf).1
   exact⟨OH (vg.out.good e hel).2.1,(qg.out e hel).refs⟩
 clear hg hT hR hk2 hcase HST b0 b1 KE
 go_upto_region 2 with(fail)
 have lQ:Hid (Parts (aj w2.heap.size #[.slice ta T.length tc,.slice ra R.length rc,.string sm] Vy :: (aG uQ 3 (.slice ta T.length tc) T.length (ak T) :: aG iw 1 (.slice ra R.length rc) R.length (bf R) :: ((aj nb #[.pointer (some ⟨px,0,none⟩),.pointer (some ⟨r,0,none⟩)] ji :: X)++au D))) (w2.alloc (.cells #[.slice ta T.length tc,.slice ra R.length rc,.string sm] Vy))):=HP2.out.blk _ _
 generalize w2.heap.size=eb at *
 generalize w2.alloc (.cells #[.slice ta T.length tc,.slice ra R.length rc,.string sm] 52)=w3 at *
 clear HP2
 have hb3:aS w3 nb #[.pointer (some ⟨px,0,none⟩),.pointer (some ⟨r,0,none⟩)] ji:=lQ.out.all (aj nb _ ji) (by simp)
 have b0:=hb3.cell 1
 simp only[List.getElem?_toArray,List.getElem?_cons_zero,List.getElem?_cons_succ] at b0
 have HRG:Hid (Calls Tryz.prog 101 #[pv r,.string ⟨nm.toArray⟩] w3 (D5 w3 L nm)):=by
  have hpa:=lX (X:=aj eb _ Vy :: aG uQ _ _ _ _ :: aG iw _ _ _ _ :: aj nb _ ji :: X) lQ.out lY.out
  exact Vu w3 hpa.qt vg.out qg.out ⟨nm.toArray⟩
 clear hb3
 go_wp2_with fail
 refine HRG.out.mono ?_
 rintro e w4 hq
 obtain⟨ua,va,uc,vc,T2,R2,sm2,ok,rfl,hT2,hR2,hk4,hcase2⟩:=acX hq
 have zZ:=Lib.hid (lQ.out.non hk4)
 have HC:Hid ((T=[]∧R=[]∧sm=⟨#[]⟩∧er=15∧ok=false)∨(T=T2∧R=R2∧sm=sm2∧er=0∧ok=true)):=by
  show _∨_
  rcases ZH.out with⟨hf,rfl,rfl,rfl,rfl⟩|⟨e,hf,rfl,rfl,rfl,rfl⟩
  ·rcases hcase2 with⟨_,rfl⟩|⟨e,hf2,_⟩
   ·exact .inl ⟨rfl,rfl,rfl,rfl,rfl⟩
   ·rw[hf] at hf2;cases hf2
  ·rcases hcase2 with⟨hf2,_⟩|⟨e',hf2,rfl,rfl,rfl,rfl⟩
   ·rw[hf] at hf2;cases hf2
   ·rw[hf] at hf2
    cases hf2
    exact .inr ⟨rfl,rfl,rfl,rfl,rfl⟩
 have HT2:=Lib.hid hT2
 have HR2:=Lib.hid hR2
 clear hq hT2 hR2 hk4 hcase2 HRG b0 ZH lQ
 go_upto_region 3 with(fail)
 have Qr:Keeps Non w4 (w4.alloc (.cells #[.slice ua T2.length uc,.slice va R2.length vc,.string sm2] 52)):=(Keeps.refl _ _).alloc _
 have hbA:=aS.new w4 #[.slice ua T2.length uc,.slice va R2.length vc,.string sm2] 52
 have NM:=Lib.hid (zZ.out.non Qr)
 have HT5:=Lib.hid (HT2.out.non Qr)
 have HR5:=Lib.hid (HR2.out.non Qr)
 have HB5:=Lib.hid hbA
 generalize w4.heap.size=fb at *
 generalize w4.alloc (.cells #[.slice ua T2.length uc,.slice va R2.length vc,.string sm2] 52)=w5 at *
 clear Qr hbA zZ HT2 HR2
 have hb5:aS w5 eb #[.slice ta T.length tc,.slice ra R.length rc,.string sm] Vy:=NM.out.head
 have e0:=hb5.cell 0
 have e1:=hb5.cell 1
 have e2:=hb5.cell 2
 simp only[List.getElem?_toArray,List.getElem?_cons_zero,List.getElem?_cons_succ] at e0 e1 e2
 clear hb5
 rcases HC.out with⟨rfl,rfl,rfl,rfl,rfl⟩|⟨rfl,rfl,rfl,rfl,rfl⟩
 ·simp only[List.length_nil] at e0 e1
  have HE:Hid (∀(ta ra:Option Addr) (tc rc:Nat),(Value.slice ta ([]:List Node).length tc=.slice ta 0 tc)∧(Value.slice ra ([]:List (List UInt8)).length rc=.slice ra 0 rc)):=fun _ _ _ _=>⟨rfl,rfl⟩
  clear HC HT5 HR5
  go_wp2_with fail
  refine(Az (aj eb #[.slice ta 0 tc,.slice ra 0 rc,.string ⟨#[]⟩] Vy :: aG iw 1 (.slice ra 0 rc) 0 (bf []) :: aj nb #[.pointer (some ⟨px,0,none⟩),.pointer (some ⟨r,0,none⟩)] ji :: X) D w5 (.slice ta 0 tc) [] (NM.out.perm (List.Perm.swap ..)) (by simp) hnt).mono ?_
  rintro e w6 ⟨rfl,vts',v',D6⟩
  have Gl:=Lib.hid D6
  have hb6:aS w6 eb #[.slice ta 0 tc,.slice ra 0 rc,.string ⟨#[]⟩] Vy:=Gl.out.head
  have e1:=hb6.cell 1
  simp only[List.getElem?_toArray,List.getElem?_cons_zero,List.getElem?_cons_succ] at e1
  clear D6 hb6 e0 e2 NM
  go_wp2_with fail
  refine(sV (aj eb #[.slice ta 0 tc,.slice ra 0 rc,.string ⟨#[]⟩] Vy :: aj nb #[.pointer (some ⟨px,0,none⟩),.pointer (some ⟨r,0,none⟩)] ji :: X) _ w6 (.slice ra 0 rc) 0 (bf []) (Gl.out.perm (List.Perm.swap ..)) (by omega) hnl).mono ?_
  rintro e w7 ⟨rfl,vls',v2,Qd⟩
  have YJ:=Lib.hid Qd
  clear Qd e1 Gl
  go_wp2_with fail
  go_ret
  exact⟨rfl,_,LD.G5 D _ _ _ _ _ _,YJ.out.tail.tail⟩
 ·have zX:=HB5.out
  have f0:=zX.cell 0
  have f1:=zX.cell 1
  have f2:=zX.cell 2
  simp only[List.getElem?_toArray,List.getElem?_cons_zero,List.getElem?_cons_succ] at f0 f1 f2
  clear HC zX
  have HTA:Hid (Rd w5 3 (.slice ta T.length tc) T.length (ak T)):=(show Sl w5 0 uQ 3 _ _ _ from NM.out.tail.head).rd
  have HRA:Hid (Rd w5 1 (.slice ra R.length rc) R.length (bf R)):=(show Sl w5 0 iw 1 _ _ _ from NM.out.tail.tail.head).rd
  go_wp2_with fail
  refine(IY _ _ T w5 HTA.out HT5.out (by have:=yM.out.1;omega)).mono ?_
  rintro e w6 ⟨rfl,hk6⟩
  have Gl:=Lib.hid (NM.out.non hk6)
  have xJ:=Lib.hid (HRA.out.non hk6)
  have D7:=Lib.hid (HR5.out.non hk6)
  have hb6:aS w6 eb #[.slice ta T.length tc,.slice ra R.length rc,.string sm] Vy:=Gl.out.head
  have hf6:=HB5.out.keeps hk6 fun h=>h
  have e0:=hb6.cell 0
  have e1:=hb6.cell 1
  have f1:=hf6.cell 1
  simp only[List.getElem?_toArray,List.getElem?_cons_zero,List.getElem?_cons_succ] at e0 e1 f1
  clear hk6 hb6 hf6 e2 f0 f2 NM HT5 HR5 HTA HRA HB5
  go_wp2_with fail
  refine(wW R R _ _ w6 xJ.out D7.out).mono ?_
  rintro e w7 ⟨rfl,nd,rfl⟩
  have heq:(R==R)=true:=beq_self_eq_true _
  rw[heq]
  have YJ:=Lib.hid (Gl.out.non ((Keeps.refl _ _).drewN nd))
  clear heq Gl xJ D7 f1
  go_wp2_with fail
  refine(Az (aj eb #[.slice ta T.length tc,.slice ra R.length rc,.string sm] Vy :: aG iw 1 (.slice ra R.length rc) R.length (bf R) :: aj nb #[.pointer (some ⟨px,0,none⟩),.pointer (some ⟨r,0,none⟩)] ji :: X) D _ (.slice ta T.length tc) T (YJ.out.perm (List.Perm.swap ..)) yM.out.1 hnt).mono ?_
  rintro e w8 ⟨rfl,vts',v',VA⟩
  have HP8:=Lib.hid VA
  have hb8:aS w8 eb #[.slice ta T.length tc,.slice ra R.length rc,.string sm] Vy:=HP8.out.head
  have e1:=hb8.cell 1
  simp only[List.getElem?_toArray,List.getElem?_cons_zero,List.getElem?_cons_succ] at e1
  clear VA hb8 e0 YJ
  go_wp2_with fail
  refine(sV (aj eb #[.slice ta T.length tc,.slice ra R.length rc,.string sm] Vy :: aj nb #[.pointer (some ⟨px,0,none⟩),.pointer (some ⟨r,0,none⟩)] ji :: X) _ w8 (.slice ra R.length rc) R.length (bf R) (HP8.out.perm (List.Perm.swap ..)) yM.out.2 hnl).mono ?_
  rintro e w9 ⟨rfl,vls',v2,hp9⟩
  have HP9:=Lib.hid hp9
  clear hp9 e1 HP8
  go_wp2_with fail
  go_ret
  exact⟨rfl,_,LD.G5 D _ _ _ _ _ _,HP9.out.tail.tail⟩
end Go.Proofs.YtdkogijdfgfpeaaGreatDoor
namespace Go.Proofs.YtdkogijdfgfpeaaGreatDoor
open Go Go.RowKit
theorem VB:∀(l:List Node) (z:Int),(∀x∈l,x.path.length≤1048576∧x.data.length≤1048576)→0≤z→z≤1048576→0≤kY l z∧kY l z≤4194304
 | [],z,_,h0,h1=>by rw[kY];omega
 |x :: r,z,h,h0,h1=>by
  have hx:=h x (List.mem_cons_self ..)
  rw[kY]
  split
  ·omega
  ·exact VB r _ (fun y hy=>h y (List.mem_cons_of_mem _ hy)) (by omega) (by omega)
theorem aaH(l:List xK)(k:Nat)(o:xK)(h:l[k]? =some o)(j:Nat)(hj:j<8):(Cb l)[k*8+j]? =(opC o)[j]? :=Je opC 8 (fun a=>rfl) l k j o h hj
theorem vV{w:World}{b off:Nat}{l:List xK}{k:Nat}{o:xK}(hlt:k<l.length)(hc:∀j,j<l.length*8→w.cell? ⟨b,off+j,none⟩=(Cb l)[j]?)(h:l[k]? =some o):
 w.cell? ⟨b,off+k*8,none⟩=some (.int .i64 o.kind)∧w.cell? ⟨b,off+k*8+1,none⟩=some (.int .i64 o.a)∧w.cell? ⟨b,off+k*8+2,none⟩=some (.int .i64 o.c)∧w.cell? ⟨b,off+k*8+3,none⟩=some (.string o.s)∧
 w.cell? ⟨b,off+k*8+4,none⟩=some (.string o.b)∧w.cell? ⟨b,off+k*8+5,none⟩=some o.vl∧w.cell? ⟨b,off+k*8+6,none⟩=some o.vm∧w.cell? ⟨b,off+k*8+7,none⟩=some o.vd:=by
 have hk:k*8+8≤l.length*8:=by omega
 have e:=fun j (hj:j<8)=>(hc (k*8+j) (by omega)).trans (aaH l k o h j hj)
 refine⟨e 0 (by omega),?_,?_,?_,?_,?_,?_,?_⟩
 ·rw[Nat.add_assoc];exact e 1 (by omega)
 ·rw[Nat.add_assoc];exact e 2 (by omega)
 ·rw[Nat.add_assoc];exact e 3 (by omega)
 ·rw[Nat.add_assoc];exact e 4 (by omega)
 ·rw[Nat.add_assoc];exact e 5 (by omega)
 ·rw[Nat.add_assoc];exact e 6 (by omega)
 ·rw[Nat.add_assoc];exact e 7 (by omega)
abbrev dF:TypeId:=67
theorem xk(l:List xK)(v:Value)(w:World)(hv:Rd w 8 v l.length (Cb l))(ho:∀o∈l,uZ w o)(hl:l.length≤200000):
 Calls Tryz.prog 14 #[v] w fun e w'=>(∃g,e=.returned (.bool g))∧Keeps Non w w':=by
 obtain⟨va,vc,rfl,hc1,hc2⟩:=hv.shape
 unfold maxLen at hc2
 have HV:=Lib.hid hv
 have HO:=Lib.hid ho
 clear hv ho
 go_enter Tryz.func14,Tryz.ntmps14
 go_wp2_with fail
 go_loopg [3,12] l.length (fun gk nv iv wr=>∃(k:Nat) (z:Int),gk=l.length-k∧k≤l.length∧iv=.int .i64 k∧nv=.int .i64 z∧0≤z∧z≤262144∧Hid (Keeps Non w wr))
 case atStart=>exact⟨0,l.length,rfl,Nat.zero_le _,rfl,rfl,by omega,by omega,Keeps.refl _ _⟩
 case round=>
  obtain⟨k,z,rfl,hk,rfl,rfl,hz0,hz1,HK⟩:=hrel
  by_cases hlt:k<l.length
  ·obtain⟨o,ho⟩:∃o,l[k]? =some o:=⟨_,List.getElem?_eq_getElem hlt⟩
   have hO:=HO.out o (List.mem_of_getElem? ho)
   obtain⟨b,off,cp,hsh,-,-,-,hbl,hc,-⟩:=(HV.out.non HK.out).pos (by omega)
   cases hsh
   obtain⟨c0,c1,c2,c3,c4,c5,c6,c7⟩:=vV hlt hc ho
   clear hc ho
   obtain⟨kind,a,c,s,bb,vl,vm,vd,L,M,D⟩:=o
   obtain⟨la,lc,hsl,hl1,hl2⟩:=hO.rl.shape
   obtain⟨ma,mc,hsm,hm1,hm2⟩:=hO.rm.shape
   obtain⟨da,dc,hsd,hd1,hd2⟩:=hO.rd.shape
   have G6:=hO.ll
   have G7:=hO.lm
   have hDL:=hO.ld
   have G8:=hO.ls
   have hBL:=hO.lb
   simp only at hsl hsm hsd hl1 hm1 hd1 c0 c1 c2 c3 c4 c5 c6 c7 G6 G7 hDL G8 hBL
   subst hsl hsm hsd
   unfold maxLen at hl2 hm2 hd2
   have AB:=Lib.hid hO
   clear hO
   go_upto_region 5 with(fail)
   have yN:Hid (Keeps Non w (wr.alloc (.cells #[.int .i64 kind,.int .i64 a,.int .i64 c,.string s,.string bb,.slice la L.length lc,.slice ma M.length mc,.slice da D.length dc] 67))):=HK.out.alloc _
   have Rw:Hid (aS (wr.alloc (.cells #[.int .i64 kind,.int .i64 a,.int .i64 c,.string s,.string bb,.slice la L.length lc,.slice ma M.length mc,.slice da D.length dc] 67)) wr.heap.size #[.int .i64 kind,.int .i64 a,.int .i64 c,.string s,.string bb,.slice la L.length lc,.slice ma M.length mc,.slice da D.length dc] 67):=aS.new wr _ _
   generalize wr.heap.size=nb at *
   generalize wr.alloc (.cells #[.int .i64 kind,.int .i64 a,.int .i64 c,.string s,.string bb,.slice la L.length lc,.slice ma M.length mc,.slice da D.length dc] 67)=W1 at *
   obtain⟨z2,hz2⟩:∃z2,uq L=z2:=⟨_,rfl⟩
   have hzr:0≤z2∧z2≤4194304:=by
    rw[←hz2]
    exact VB L L.length AB.out.nl (by omega) (by omega)
   obtain⟨als,alu⟩:=hzr
   have HW:Hid (∀wx,Keeps Non w wx→Calls Tryz.prog 30 #[.slice la L.length lc] wx fun e w'=>e=.returned (.int .i64 z2)∧Keeps Non wx w'):=fun wx hk=>by
    rw[←hz2]
    exact Og _ L wx (AB.out.rl.non hk) (fun n hn=>by have:=AB.out.nl n hn;omega) (by omega)
   clear hz2 HK c0 c1 c2 c3 c4 c5 c6 c7
   have iD:Hid (∀wx,Keeps Non W1 wx→wx.cell? ⟨nb,3,none⟩=some (.string s)∧wx.cell? ⟨nb,4,none⟩=some (.string bb)∧wx.cell? ⟨nb,5,none⟩=some (.slice la L.length lc)∧wx.cell? ⟨nb,7,none⟩=some (.slice da D.length dc)):=fun wx hk=>by
    have hb:=Rw.out.keeps hk fun h=>h
    exact⟨hb.cell 3,hb.cell 4,hb.cell 5,hb.cell 7⟩
   obtain⟨d3,d4,d5,d7⟩:=iD.out W1 (Keeps.refl _ _)
   go_cut [3] (fun nv wx=>∃z':Int,nv=.int .i64 z'∧0≤z'∧z'≤16777216∧Hid (Keeps Non W1 wx))
   case first=>
    have hc:Keeps Non W1 W1:=Keeps.refl _ _
    go_region_held3 (fun w'=>w'.cell? ⟨nb,3,none⟩=some (.string s)∧w'.cell? ⟨nb,4,none⟩=some (.string bb)∧w'.cell? ⟨nb,5,none⟩=some (.slice la L.length lc)∧w'.cell? ⟨nb,7,none⟩=some (.slice da D.length dc)) (first|exact⟨d3,d4,d5,d7⟩|exact iD.out _ hc|exact iD.out _ hc.drew) (first
     |(go_at_call 30
       refine(HW.out _ (by first|exact yN.out.tn hc|exact yN.out.tn hc.drew)).mono ?_
       rintro e w2 ⟨rfl,hk⟩
       replace hc:=Keeps.tn hc (by first|exact hk|exact hk.un)
       clear hk
       obtain⟨d3,d4,d5,d7⟩:=iD.out _ hc))
    all_goals (
     go_wp2_with fail
     go_meet
     have e1:IntKind.i64.wrap ((s.size:Int)+(bb.size:Int))=(s.size:Int)+bb.size:=IntWalk.i64_in _ (by omega)
     have e2:IntKind.i64.wrap ((s.size:Int)+(bb.size:Int)+z2)=(s.size:Int)+bb.size+z2:=IntWalk.i64_in _ (by omega)
     have e3:IntKind.i64.wrap ((s.size:Int)+(bb.size:Int)+z2+(D.length:Int))=(s.size:Int)+bb.size+z2+D.length:=IntWalk.i64_in _ (by omega)
     have e4:IntKind.i64.wrap (z+((s.size:Int)+(bb.size:Int)+z2+(D.length:Int)))=z+((s.size:Int)+bb.size+z2+D.length):=IntWalk.i64_in _ (by omega)
     exact⟨z+((s.size:Int)+bb.size+z2+D.length),by rw[e1,e2,e3,e4],by omega,by omega,hc⟩)
   case rest=>
    obtain⟨z',rfl,hz0',hz1',pO⟩:=hcut
    have HB':=Lib.hid (Rw.out.keeps pO.out fun h=>h)
    have HK':=Lib.hid (yN.out.tn pO.out)
    have d6:=HB'.out.cell 6
    simp only[List.getElem?_toArray,List.getElem?_cons_zero,List.getElem?_cons_succ] at d6
    clear d3 d4 d5 d7 HW Rw yN iD pO HB'
    go_wp2_with fail
    go_loopg [3,36] M.length (fun gk nv iv wq=>∃(j:Nat) (y:Int),gk=M.length-j∧j≤M.length∧iv=.int .i64 j∧nv=.int .i64 y∧0≤y∧y≤16777216+(j:Int)*1048577∧Hid (Keeps Non w wq))
    case atStart=>exact⟨0,z',rfl,Nat.zero_le _,rfl,rfl,by omega,by omega,HK'⟩
    case round=>
     clear HK'
     obtain⟨j,y,rfl,hj,rfl,rfl,hy0,hy1,X8⟩:=hrel
     by_cases hlj:j<M.length
     ·obtain⟨b2,o2,cp2,hsh,-,-,-,alv,hc2,-⟩:=(AB.out.rm.non X8.out).pos (by simp only;omega)
      cases hsh
      simp only at hc2
      have m0:wr.cell? ⟨b2,o2+j,none⟩=some (sv M[j]):=(hc2 j (by omega)).trans (dJ M j hlj)
      have hmj:=AB.out.nm M[j] (List.getElem_mem hlj)
      unfold sv at m0
      clear hc2
      generalize M[j]=x at *
      go_wp2_with fail
      go_roundg (M.length-(j+1))
      case measure=>omega
      case rel=>exact⟨j+1,y+(1+(x.length:Int)),rfl,by omega,by go_num,by go_num,by omega,by push_cast;omega,X8⟩
     ·by_cases hy:262144<y
      ·have g1:decide ((262144:Int)<y)=true:=decide_eq_true hy
       go_wp2_with fail
       go_ret
       exact⟨⟨_,rfl⟩,X8.out⟩
      ·have g1:decide ((262144:Int)<y)=false:=decide_eq_false hy
       go_wp2_with fail
       go_roundg (l.length-(k+1))
       case measure=>omega
       case rel=>exact⟨k+1,y,rfl,by omega,by go_num,rfl,hy0,by omega,X8⟩
  ·go_wp2_with fail
   go_ret
   exact⟨⟨_,rfl⟩,HK.out⟩
end Go.Proofs.YtdkogijdfgfpeaaGreatDoor
namespace Go.Proofs.YtdkogijdfgfpeaaGreatDoor
open Go Go.RowKit Go.MapKept Go.ChangeShapes Go.WideShapes Go.ChangeMaps Go.Maps Go.Proofs
def AL(v:Value):Option (DataW Unit×List MemPlace):=some (.nil,[])
theorem OI{P:Program}{w:World}{kt:TypeId}(hk:P.underlying kt=some .string){b:Nat}{m:bY}(h:MapAt w b m)(hl:m.length≤1099511627776):
 ∃D0:DataW Unit,w.ownsMap P kt AL b m.length D0∧(strKeys D0).Perm (m.map Prod.fst)∧Maps.size D0=m.length:=by
 obtain⟨es,clock,hb,hm⟩:=h
 have hml:m.length=es.toList.length:=by
  have:=congrArg List.length hm.ents
  simpa using this.symm
 have hkeys:∀e∈es.toList,∃x∈m,e.key=sv x.1:=fun e he=>by
  obtain⟨x,hx,hxk,-⟩:=hm.key he
  exact⟨x,hx,hxk⟩
 have hrg:∀e∈es.toList,∀x∈m,e.key=sv x.1→Go.WideElems.rd P kt AL e=some (.string x.1,.nil):=fun e he x hx hex=>by
  have hsz:(⟨x.1.toArray⟩:ByteArray).size≤maxLen:=by have:=hm.small x hx;show x.1.toArray.size≤_;simp[maxLen];omega
  unfold Go.WideElems.rd
  rw[hex]
  have:keyOf P kt (sv x.1)=some (.string x.1):=by
   have h1:=WideMaps.keyOf_string_mk hk hsz
   simpa [sv] using h1
  rw[this]
  rfl
 have hfit:Go.WideElems.Fit P kt AL es clock:=by
  refine⟨by simp[maxLen];simp at hml;omega,⟨hm.old,hm.born,?_⟩,fun e he=>?_⟩
  ·have h1:es.toList.map (·.key)=(m.map Prod.fst).map sv:=by
    have:=congrArg (List.map Prod.fst) hm.ents
    rw[List.map_map,List.map_map] at this
    rw[List.map_map]
    exact this
   rw[h1]
   exact List.Pairwise.map sv (fun a b h e=>h (X4 e)) hm.keys
  ·obtain⟨x,hx,hex⟩:=hkeys e he
   exact⟨_,hrg e he x hx hex⟩
 refine⟨_,⟨es,clock,hb,hfit,by rw[hml];exact Nat.le_of_eq (by simp),rfl⟩,?_,?_⟩
 ·have h1:=(sorted_perm (es.toList.map (Go.WideElems.rg P kt AL))).map fun p=>strOf p.1
  refine List.Perm.trans h1 (List.Perm.of_eq ?_)
  have h2:es.toList.map (·.key)=(m.map Prod.fst).map sv:=by
   have:=congrArg (List.map Prod.fst) hm.ents
   rw[List.map_map,List.map_map] at this
   rw[List.map_map]
   exact this
  rw[List.map_map]
  have h3:(es.toList.map ((fun p=>strOf p.1) ∘ Go.WideElems.rg P kt AL)).map sv=(m.map Prod.fst).map sv:=by
   rw[←h2,List.map_map]
   refine List.map_congr_left fun e he=>?_
   obtain⟨x,hx,hex⟩:=hkeys e he
   simp only[Function.comp]
   rw[Go.WideElems.rg_of (hrg e he x hx hex),hex]
   rfl
  exact(List.map_inj_right fun a b e=>X4 e).1 h3
 ·rw[Maps.size_eq,(sorted_perm _).length_eq,List.length_map,hml]
theorem OJ{w:World}{B:Nat}{E:TypeId}{size:Nat}{v:Value}{n:Nat}{xs:List Value}(h:w.ownsRow B E size v n xs):Sl w B E size v n xs:=by
 obtain⟨h1,h2|⟨g,cap,cur,h2,h3,h4,h5,h6,h7,h8⟩⟩:=h
 ·exact⟨h1,.inl h2⟩
 ·refine⟨h1,.inr ⟨g,0,cap,cur,h2,h3,h4,h5,h6,by omega,fun j hj=>?_⟩⟩
  rw[Nat.zero_add,←h8,List.getElem?_take,if_pos hj,Array.getElem?_toList]
theorem KY{l:List (List UInt8)}(h:l.Pairwise fun a b=>Op.bytesLess a b=true):l.mergeSort _root_.Go.leB=l:=by
 refine List.mergeSort_of_pairwise (h.imp fun {a b} hab=>?_)
 rw[nN,decide_eq_true_eq] at hab
 simp only[_root_.Go.leB,decide_eq_true_eq]
 exact List.le_of_lt hab
theorem Rx{F:Nat→Prop}{s:Nat}{L:aH}(w:World)(h:aU w F s L):
 Calls Tryz.prog 22 #[pv s] w fun e w'=>∃v,e=.returned v∧Sl w' w.heap.size 9 1 v L.length (bf (L.map dI.path))∧Keeps Non w w':=by
 obtain⟨mb,m,g1,g2,g3,g4,g5,g6⟩:=h.map
 have Jg:=h.ok.ten
 obtain⟨D0,hown,hperm,hsize⟩:=OI (P:=Tryz.prog) (kt:=9) Tryz.underlying9 g3 (by omega)
 have hkp:(m.map Prod.fst).Perm (L.map dI.path):=by
  refine(List.perm_ext_iff_of_nodup g3.nodup ?_).2 fun x=>?_
  ·exact(List.pairwise_map.2 (h.ok.rise.imp fun {a b} hab e=>by rw[e,iQ] at hab;cases hab))
  ·constructor
   ·intro hx
    obtain⟨y,hy,rfl⟩:=List.mem_map.1 hx
    obtain⟨e,he,oz⟩:=g5 y hy
    exact List.mem_map.2 ⟨e,he,oz⟩
   ·intro hx
    obtain⟨e,he,rfl⟩:=List.mem_map.1 hx
    obtain⟨p,hp,-⟩:=g6 e he
    exact List.mem_map.2 ⟨_,(jE g3.nodup).1 hp,rfl⟩
 have cs:=g2.cell 0
 simp only[List.getElem?_toArray,List.getElem?_cons_zero] at cs
 have hmax:Maps.size D0≤maxLen:=by rw[hsize];simp[maxLen];omega
 have hbytes:Maps.size D0*16≤140737488355328:=by rw[hsize];omega
 have hsort:(L.map dI.path).mergeSort _root_.Go.leB=L.map dI.path:=KY (List.pairwise_map.2 h.ok.rise)
 unfold pv
 refine(callsIn_wide (n:=6)).1 ?_
 have hfK:Fence.wide.fn 52:=trivial
 have hfS:Fence.wide.fn 51:=trivial
 refine callsIn_of_wp Tryz.func22 rfl trivial ?_ rfl
 simp only[Tryz.ntmps22,List.size_toArray,List.length_cons,List.length_nil,Nat.reduceAdd,Nat.reduceSub,Array.replicate_succ,Array.replicate_zero,List.push_toArray,List.append_toArray,List.nil_append,List.cons_append]
 gi_wp2_with (first
  |(gi_at_call 52;refine(Tryz.maps_Keys_52 _ _).mono ?_;rintro e w' ⟨rfl,rfl⟩)
  |(gi_at_call 51;refine(Tryz.slices_Sorted_keys_51_52 mb m.length D0 AL w hown hmax hbytes).mono ?_;rintro e w' ⟨v,ss,rfl,hS,hrow,hnil,hb⟩))
 go_ret
 have hss:ss.mergeSort _root_.Go.leB=L.map dI.path:=by
  rw[mergeSort_of_perm (hS.trans (hperm.trans hkp)),hsort]
 have hlen:ss.length=L.length:=by
  have:=(hS.trans (hperm.trans hkp)).length_eq
  simpa using this
 have hsl:=OJ hrow
 rw[hlen] at hsl
 have hxs:(ss.mergeSort fun x y=>decide (x≤y)).map encStr=bf (L.map dI.path):=by
  have:(ss.mergeSort fun x y=>decide (x≤y))=L.map dI.path:=hss
  rw[this]
  rfl
 rw[hxs] at hsl
 refine⟨v,rfl,hsl.mono (by simp),?_⟩
 have hk1:Keeps Non w (w.alloc (.cells #[.map (some mb)] 82)):=(Keeps.refl _ _).alloc _
 exact hk1.trans (Keeps.of_below (S:=Non) hb fun k hk _=>hk) fun _ h=>h.elim
end Go.Proofs.YtdkogijdfgfpeaaGreatDoor
