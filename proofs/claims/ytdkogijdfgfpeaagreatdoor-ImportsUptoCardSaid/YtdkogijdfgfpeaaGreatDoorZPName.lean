/- (*tree.Parser).name. -/
import Derived.Test.YtdkogijdfgfpeaaGreatDoorZPAdd
import Derived.Test.YtdkogijdfgfpeaaGreatDoorZRefA
import Derived.Deep.RegionHeld3
import Derived.Test.YtdkogijdfgfpeaaGreatDoorZGet
import Derived.Test.YtdkogijdfgfpeaaGreatDoorZPInv
set_option linter.unusedVariables false
namespace Go.Proofs.YtdkogijdfgfpeaaGreatDoor
open Go Go.RowKit
set_option maxHeartbeats 4000000
set_option maxRecDepth 100000
theorem S9{B b:Nat}{tail:PT}{ts:List (Job×Value)}{σ:aT}{w:World}{vr vt vl:Value}{ba off m cap:Nat}{ab:Opens}{op ol:List UInt8}(H:pq B b tail ts σ w vr vt vl (.slice (some ⟨ba,off,none⟩) (m+1) cap))(hm:m=ab.length)(ha:σ.above=ab++[(op,ol)])(s:List UInt8):
 pq B b tail ts {σ with above:=ab++[(op,s)]} (w.setCell ⟨ba,off+m*2+1,none⟩ (sv s)) vr vt vl (.slice (some ⟨ba,off,none⟩) (m+1) cap)∧Kp B [160] w (w.setCell ⟨ba,off+m*2+1,none⟩ (sv s)):=by
 subst hm
 have hl:σ.above.length=ab.length+1:=by rw[ha];simp
 have hs:=H.above
 rw[hl] at hs
 obtain⟨c,hb,hB⟩:=hs.blk
 have k:Kp B [160] w (w.setCell ⟨ba,off+ab.length*2+1,none⟩ (sv s)):=(Kp.refl _ _ _).set hb (.inr ⟨hB,by simp⟩) _ _
 have sub:∀T∈([160]:List TypeId),T∈zF:=by intro T hT;simp only[List.mem_singleton] at hT;subst hT;simp
 refine⟨⟨H.blk.kp k (.inr (by decide)),H.le,H.rest.kp k (.inl (by decide)),H.todo.kp k (.inl (by decide)),H.nodes.kp k (.inl (by decide)),?_,fun t ht=>(H.jobs t ht).kp k sub,fun t ht=>⟨(H.kept t ht).1.kp k (.inl (by decide)),(H.kept t ht).2⟩⟩,k⟩
 have h2:=hs.set (ab.length*2+1) (by omega) (sv s)
 rw[←Nat.add_assoc] at h2
 have e9:(dh σ.above).set (ab.length*2+1) (sv s)=dh (ab++[(op,s)]):=by
  rw[ha,bW,bW,List.set_append_right _ _ (by rw[bD];omega),bD]
  simp[dh]
 rw[e9] at h2
 show Sl _ B _ 2 _ (ab++[(op,s)]).length _
 rw[List.length_append]
 exact h2
theorem Iy{B b:Nat}{tail:PT}{ts:List (Job×Value)}{σ:aT}{w:World}{vr vt vl va:Value}(H:pq B b tail ts σ w vr vt vl va)(p:List UInt8):
 pq B b tail ts {σ with path:=p} (w.setCell ⟨b,7,none⟩ (sv p)) vr vt vl va∧Kp B [TB] w (w.setCell ⟨b,7,none⟩ (sv p)):=by
 have k:=H.wF 7 (sv p)
 have b1:=H.blk.set 7 (sv p)
 rw[(fP ..).2.2.2.2.2.2.2] at b1
 obtain⟨p1,p2,p3,p4,p5,p6⟩:=H.parts k
 exact⟨⟨b1,H.le,p1,p2,p3,p4,p5,p6⟩,k⟩
theorem Tc{B b:Nat}{tail:PT}{ts:List (Job×Value)}{σ:aT}{w:World}(h:PA B b tail ts σ w)(hT:Tabs w)(s:ByteArray)(hs:s.size≤1000)(p:Int)(ab:Opens)(op ol:List UInt8)(ha:σ.above=ab++[(op,ol)])(hl:ab.length≤1099511627776)(hop:op.length≤1099511627776):
 Calls Tryz.prog 174 #[.pointer (some ⟨b,0,none⟩),.string s,.int .i64 p] w fun ed w'=>ed=.returned (.tuple #[])∧PA B b tail ts (aN .name s.data.toList p σ).2 w'∧Kp B [160,TB] w w':=by
 obtain⟨vr,vt,vl,va,h⟩:=h
 have c6:w.cell? ⟨b,6,none⟩=some va:=(h.blk.cell 6).trans (aY ..).2.2.2.2.2.2.1
 have xO:=h.above
 rw[ha] at xO
 obtain⟨ba,off,cap,rfl,hBb,hnc,hcm,hlt,hcell,hfree⟩:=xO.pos (by simp)
 unfold maxLen at hcm
 have e1:(ab++[(op,ol)]).length=ab.length+1:=by simp
 have H0:=Lib.hid h
 rw[e1] at c6 hnc hcell H0
 have c1:w.cell? ⟨ba,off+ab.length*2+1,none⟩=some (sv ol):=by
  rw[Nat.add_assoc,hcell _ (by omega),bW,List.getElem?_append_right (by rw[bD];omega),bD]
  simp[dh]
 clear e1 h xO hcell hfree
 obtain⟨m,hm⟩:∃m,ab.length=m:=⟨_,rfl⟩
 rw[hm] at c6 hnc H0 c1 hl
 have HM:=Lib.hid hm
 have HA:=Lib.hid ha
 have HT:=Lib.hid hT
 clear hm ha hT
 have q1:IntKind.i64.wrap (m:Int)=(m:Int):=IntWalk.i64_in _ (by omega)
 have q2:(0:Int)≤(m:Int):=by omega
 have q3:(m:Int)<(m:Int)+1:=by omega
 have q4:m<m+1:=by omega
 have q6:IntKind.i64.wrap ((m:Int)+1-1)=(m:Int):=by rw[IntWalk.i64_in _ (by omega)];omega
 unfold sv at c1
 have HD1:Hid ((σ.above.getLastD ([],[]))=(op,ol)):=by show _=_;rw[HA.out,List.getLastD_concat]
 have HD2:Hid (σ.above.dropLast=ab):=by show _=_;rw[HA.out,List.dropLast_concat]
 go_enter Tryz.func174,Tryz.ntmps174
 go_wp2_with fail
 go_quiet (fail)
 go_wp2_with fail
 refine(name_any s _ (by unfold maxLen;omega) (show Tabs (w.drewN nq) from HT.out)).mono ?_
 rintro e w4 ⟨rfl,hk2'⟩
 have hk2:=hk2'.JQ
 clear hk2'
 have H4:Hid (pq B b tail ts σ w4 vr vt vl (.slice (some ⟨ba,off,none⟩) (m+1) cap)):=H0.out.keeps hk2
 have K4:Hid (Kp B [160,TB] w w4):=Kp.aI hk2
 have xO:=H4.out.above
 rw[HA.out,show(ab++[(op,ol)]).length=m+1 by rw[←HM.out];simp] at xO
 have d1:w4.cell? ⟨ba,off+m*2+1,none⟩=some (sv ol):=by
  have:=(xO.at (m*2+1) (by omega)).1
  rw[←Nat.add_assoc] at this
  rw[this,bW,List.getElem?_append_right (by rw[bD,HM.out];omega),bD,HM.out]
  simp[dh]
 unfold sv at d1
 clear hk2 xO H0 c1 c6
 have hcs:nameB s.data.toList=false∨(nameB s.data.toList=true∧pY s.data.toList ol=true)∨(nameB s.data.toList=true∧pY s.data.toList ol=false):=by
  cases nameB s.data.toList <;> cases pY s.data.toList ol <;> simp
 rcases hcs with hn|⟨hn,hle⟩|⟨hn,hle⟩
 case' inl=>
  have HF:Hid ((aN .name s.data.toList p σ).2={σ.fail 6 p with above:=ab++[(op,s.data.toList)],path:=bg op s.data.toList}):=by
   show _=_
   simp only[aN,hn,HD1.out,HD2.out,Bool.not_false,if_true]
  have HA4:Hid ((σ.fail 6 p).above=ab++[(op,ol)]):=by show _=_;rw[←HA.out];unfold aT.fail;split <;> rfl
  go_wp2_with fail
  refine(xE H4.out 6 p).mono ?_
  clear H4
  rintro e w4 ⟨rfl,⟨vr,h4⟩,k4⟩
  have H4:=Lib.hid h4
  have K4:Hid (Kp B [160,TB] w w4):=K4.out.trans (k4.mono (.inr ⟨Nat.le_refl _,by simp⟩))
  clear h4 k4 hn d1
  generalize σ.fail 6 p=σ4 at *
 case' inr.inl=>
  have HF:Hid ((aN .name s.data.toList p σ).2={σ.fail 7 p with above:=ab++[(op,s.data.toList)],path:=bg op s.data.toList}):=by
   show _=_
   simp only[aN,hn,hle,HD1.out,HD2.out,Bool.not_true,Bool.false_eq_true,if_true,if_false]
  have HA4:Hid ((σ.fail 7 p).above=ab++[(op,ol)]):=by show _=_;rw[←HA.out];unfold aT.fail;split <;> rfl
  have hb8:(Op.bytesLess s.toList ol||s.toList==ol)=true:=by rw[ByteArray.toList_eq];exact hle
  clear hle
  go_wp2_with fail
  refine(xE H4.out 7 p).mono ?_
  clear H4
  rintro e w4 ⟨rfl,⟨vr,h4⟩,k4⟩
  have H4:=Lib.hid h4
  have K4:Hid (Kp B [160,TB] w w4):=K4.out.trans (k4.mono (.inr ⟨Nat.le_refl _,by simp⟩))
  clear h4 k4 hn d1
  generalize σ.fail 7 p=σ4 at *
 case' inr.inr=>
  have HF:Hid ((aN .name s.data.toList p σ).2={σ with above:=ab++[(op,s.data.toList)],path:=bg op s.data.toList}):=by
   show _=_
   simp only[aN,hn,hle,HD1.out,HD2.out,Bool.not_true,Bool.false_eq_true,if_false]
  have HA4:Hid (σ.above=ab++[(op,ol)]):=HA
  have hb8:(Op.bytesLess s.toList ol||s.toList==ol)=false:=by rw[ByteArray.toList_eq];exact hle
  clear hle
  go_upto_region 5 with(fail)
  clear hn d1 hb8
  obtain⟨σ4,HF,H4',HA4⟩:∃σ4:aT,Hid ((aN .name s.data.toList p σ).2={σ4 with above:=ab++[(op,s.data.toList)],path:=bg op s.data.toList})∧Hid (pq B b tail ts σ4 w4 vr vt vl (.slice (some ⟨ba,off,none⟩) (m+1) cap))∧Hid (σ4.above=ab++[(op,ol)]):=⟨σ,HF,H4,HA⟩
  clear H4
  have H4:=H4'
  clear H4'
 all_goals (
  have xO:=H4.out.above
  rw[HA4.out,show(ab++[(op,ol)]).length=m+1 by rw[←HM.out];simp] at xO
  have d1:w4.cell? ⟨ba,off+m*2+1,none⟩=some (sv ol):=by
   have:=(xO.at (m*2+1) (by omega)).1
   rw[←Nat.add_assoc] at this
   rw[this,bW,List.getElem?_append_right (by rw[bD,HM.out];omega),bD,HM.out]
   simp[dh]
  have g1:w4.frozen? ⟨ba,off+m*2+1,none⟩=false:=by
   have:=(xO.at (m*2+1) (by omega)).2
   rwa [←Nat.add_assoc] at this
  unfold sv at d1
  clear xO
  go_upto_region 6 with(fail)
  have hst:=S9 H4.out HM.out.symm HA4.out s.data.toList
  rw[show sv s.data.toList=.string s from rfl] at hst
  generalize World.setCell w4 _ _=w5 at *
  have H5:=Lib.hid hst.1
  have K5:Hid (Kp B [160,TB] w w5):=K4.out.trans (hst.2.mono (.inr ⟨Nat.le_refl _,by simp⟩))
  clear hst d1 g1 H4 K4
  have d7:w5.cell? ⟨b,7,none⟩=some (sv σ4.path):=(H5.out.blk.cell 7).trans (aY ..).2.2.2.2.2.2.2
  have g7:=H5.out.blk.free 7
  unfold sv at d7
  go_upto_region 7 with(fail)
  have hst:=Iy H5.out s.data.toList
  rw[show sv s.data.toList=.string s from rfl] at hst
  generalize World.setCell w5 _ _=w6 at *
  have H6:=Lib.hid hst.1
  have K6:Hid (Kp B [160,TB] w w6):=K5.out.trans (hst.2.mono (.inr ⟨Nat.le_refl _,by simp⟩))
  clear hst d7 g7 H5 K5
  have d7:w6.cell? ⟨b,7,none⟩=some (sv s.data.toList):=(H6.out.blk.cell 7).trans (aY ..).2.2.2.2.2.2.2
  have g7:=H6.out.blk.free 7
  have xO:Sl w6 B 160 2 (.slice (some ⟨ba,off,none⟩) (m+1) cap) (ab++[(op,s.data.toList)]).length (dh (ab++[(op,s.data.toList)])):=H6.out.above
  rw[show(ab++[(op,s.data.toList)]).length=m+1 by rw[←HM.out];simp] at xO
  have d1:w6.cell? ⟨ba,off+m*2,none⟩=some (sv op):=by
   have:=(xO.at (m*2) (by omega)).1
   rw[this,bW,List.getElem?_append_right (by rw[bD,HM.out];omega),bD,HM.out]
   simp[dh]
  unfold sv at d1 d7
  clear xO
  by_cases hde:op=[]
  ·subst hde
   go_wp2_with fail
   go_end0
   refine⟨rfl,?_,K6.out⟩
   rw[HF.out,show bg [] s.data.toList=s.data.toList by rw[bg,if_pos rfl]]
   exact⟨_,_,_,_,H6.out⟩
  ·have hb1:(!op.isEmpty)=true:=by cases op <;> simp at hde ⊢
   have hb2:op.isEmpty=false:=by cases op <;> simp at hde ⊢
   have HJ:Hid ((⟨op.toArray⟩:ByteArray)++⟨#[47]⟩++s=⟨(bg op s.data.toList).toArray⟩):=by
    show _=_
    rw[bg,if_neg hde,show(⟨#[47]⟩:ByteArray)=⟨([47]:List UInt8).toArray⟩ from rfl,show s=⟨s.data.toList.toArray⟩ from rfl,dW,dW,List.append_assoc,List.singleton_append]
   have hst:=Iy H6.out (bg op s.data.toList)
   have HST:=Lib.hid hst
   clear hst
   go_wp2_with fail
   go_end0
   rw[show Value.string ((⟨op.toArray⟩:ByteArray)++⟨#[47]⟩++s)=sv (bg op s.data.toList) from congrArg Value.string HJ.out]
   refine⟨rfl,?_,K6.out.trans (HST.out.2.mono (.inr ⟨Nat.le_refl _,by simp⟩))⟩
   rw[HF.out]
   exact⟨_,_,_,_,HST.out.1⟩)
theorem keep_any{B b:Nat}{tail:PT}{ts:List (Job×Value)}{σ:aT}{w:World}(h:PA B b tail ts σ w)(s:ByteArray)(p k:Int)(bp bk:Nat)(hbp:aS w bp #[.pointer (some ⟨b,0,none⟩)] 151)(hbk:aS w bk #[.int .i64 k] 47)(hl:σ.nodes.length≤1099511627776):
 Calls Tryz.prog 173 #[.string s,.int .i64 p,.pointer (some ⟨bp,0,none⟩),.pointer (some ⟨bk,0,none⟩)] w (Did B b tail ts (aN (.keep k) s.data.toList p σ) w):=by
 have c0:w.cell? ⟨bp,0,none⟩=some (.pointer (some ⟨b,0,none⟩)):=hbp.cell 0
 have c1:w.cell? ⟨bk,0,none⟩=some (.int .i64 k):=hbk.cell 0
 have H0:=Lib.hid h
 clear h hbp hbk
 go_enter Tryz.func173,Tryz.ntmps173
 go_wp2_with fail
 refine(add_any H0.out k s hl).mono ?_
 rintro e w1 ⟨rfl,h1,k1⟩
 go_wp2_with fail
 go_end0
 exact Did.plain rfl rfl h1 k1 (by simp)
def KeepPost(w:World)(b:Nat)(k:Int)(ed:Ending)(w':World):Prop:=∃f,ed=.returned (.agg #[.int .i64 100,f])∧dD w' b (.keep k) f∧Keeps Non w w'
theorem Iz(b:Nat)(k:Int)(bp:Nat)(w:World)(hbp:aS w bp #[.pointer (some ⟨b,0,none⟩)] 151):
 Calls Tryz.prog 172 #[.int .i64 k,.pointer (some ⟨bp,0,none⟩)] w (KeepPost w b k):=by
 have hb1:=(hbp.alloc (.cells #[.int .i64 k] 47)).alloc (.cells #[.int .i64 0,.nilFunc] 113)
 have hb2:=(aS.new w #[.int .i64 k] 47).alloc (.cells #[.int .i64 0,.nilFunc] 113)
 have hb3:=aS.new (w.alloc (.cells #[.int .i64 k] 47)) #[.int .i64 0,.nilFunc] 113
 rw[World.size_alloc] at hb3
 have hk0:Keeps Non w ((w.alloc (.cells #[.int .i64 k] 47)).alloc (.cells #[.int .i64 0,.nilFunc] 113)):=((Keeps.refl _ _).alloc _).alloc _
 clear hbp
 go_enter Tryz.func172,Tryz.ntmps172
 go_upto_region 1 with(fail)
 generalize hw1:(w.alloc (.cells #[.int .i64 k] 47)).alloc (.cells #[.int .i64 0,.nilFunc] 113)=w1 at *
 have vJ:=Lib.hid hk0
 have HB1:=Lib.hid hb1
 have HB2:=Lib.hid hb2
 have HB3:=Lib.hid hb3
 have c0:w1.cell? ⟨bp,0,none⟩=some (.pointer (some ⟨b,0,none⟩)):=hb1.cell 0
 clear hw1 hk0 hb1 hb2 hb3
 generalize hz:w.heap.size=z at HB2 HB3 ⊢
 have HZ:=Lib.hid hz
 clear hz
 go_wp2_with fail
 refine(tY b 100 (.func (.func 173) #[] #[.pointer (some ⟨bp,0,none⟩),.pointer (some ⟨z,0,none⟩)]) rfl ⟨_,_,_,rfl⟩ _).mono ?_
 rintro e w2 ⟨rfl,hk2⟩
 have B1:=Lib.hid (HB1.out.keeps hk2 (fun h=>h))
 have B2:=Lib.hid (HB2.out.keeps hk2 (fun h=>h))
 have b3:=HB3.out.keeps hk2 (fun h=>h)
 have K2:=Lib.hid (vJ.out.trans hk2 (fun k hk=>.inl hk))
 have d0:w2.cell? ⟨z+1,0,none⟩=some (.int .i64 0):=b3.cell 0
 have d1:w2.cell? ⟨z+1,1,none⟩=some .nilFunc:=b3.cell 1
 have g0:=b3.free 0
 have g1:=b3.free 1
 have B3:=Lib.hid b3
 clear hk2 b3 HB1 HB2 HB3 vJ
 go_wp2_with fail
 have b4:=(B3.out.set 0 (.int .i64 100)).set 1 (.func (.func 173) #[] #[.pointer (some ⟨bp,0,none⟩),.pointer (some ⟨z,0,none⟩)])
 have k4:=((Keeps.refl Non w).trans K2.out (fun k hk=>.inl hk)).setCell ⟨z+1,0,none⟩ (.int .i64 100) (.inr (by rw[HZ.out];exact Nat.le_succ z)) |>.setCell ⟨z+1,1,none⟩ (.func (.func 173) #[] #[.pointer (some ⟨bp,0,none⟩),.pointer (some ⟨z,0,none⟩)]) (.inr (by rw[HZ.out];exact Nat.le_succ z))
 have b1:=(B1.out.jT ⟨z+1,0,none⟩ (.int .i64 100) (fun e=>absurd (B1.out.inj (by rw[show bp=z+1 from e];exact B3.out)).2 (by decide))).jT ⟨z+1,1,none⟩ (.func (.func 173) #[] #[.pointer (some ⟨bp,0,none⟩),.pointer (some ⟨z,0,none⟩)]) (fun e=>absurd (B1.out.inj (by rw[show bp=z+1 from e];exact B3.out)).2 (by decide))
 have b2:=(B2.out.jT ⟨z+1,0,none⟩ (.int .i64 100) (by simp)).jT ⟨z+1,1,none⟩ (.func (.func 173) #[] #[.pointer (some ⟨bp,0,none⟩),.pointer (some ⟨z,0,none⟩)]) (by simp)
 generalize (w2.setCell ⟨z+1,0,none⟩ (.int .i64 100)).setCell ⟨z+1,1,none⟩ (.func (.func 173) #[] #[.pointer (some ⟨bp,0,none⟩),.pointer (some ⟨z,0,none⟩)])=w3 at *
 have e0:w3.cell? ⟨z+1,0,none⟩=some (.int .i64 100):=b4.cell 0
 have e1:w3.cell? ⟨z+1,1,none⟩=some (.func (.func 173) #[] #[.pointer (some ⟨bp,0,none⟩),.pointer (some ⟨z,0,none⟩)]):=b4.cell 1
 refine bodyPost_ret (v:=.agg #[.int .i64 100,.func (.func 173) #[] #[.pointer (some ⟨bp,0,none⟩),.pointer (some ⟨z,0,none⟩)]]) (by simp[results,Tryz.results172,go_sem,e0,e1]) rfl ?_
 exact⟨_,rfl,⟨bp,z,rfl,b1,b2⟩,k4⟩
theorem Fb{w w':World}{B:Nat}{E:TypeId}{size:Nat}{v:Value}{n:Nat}{xs:List Value}(h:Sl w B E size v n xs)(k:Hid (Keeps Non w w')):Sl w' B E size v n xs:=h.kp (Kp.aI (B:=0) (Ts:=[]) k.out) (.inl (by simp))
theorem Zb{w:World}{B:Nat}{E:TypeId}{size:Nat}{v:Value}{n:Nat}{xs:List Value}(h:Sl w B E size v n xs):Sl w.drew B E size v n xs:=h
theorem zK{B b:Nat}{tail:PT}{ts:List (Job×Value)}{σ:aT}{w:World}(h:PA B b tail ts σ w)(o:Obj):PA B b tail ts σ (w.alloc o):=h.keeps ((Keeps.refl _ _).alloc o)
theorem WR{B b:Nat}{tail:PT}{ts:List (Job×Value)}{σ:aT}{w:World}(h:PA B b tail ts σ w)(s:ByteArray)(p:Int)(ht:ts.length≤1099511627000):
 Calls Tryz.prog 167 #[.pointer (some ⟨b,0,none⟩),.string s,.int .i64 p] w (Did B b tail ts (bI .file s.data.toList p σ) w):=by
 have hk1:Keeps Non w (w.alloc (.cells #[.pointer (some ⟨b,0,none⟩)] 151)):=(Keeps.refl _ _).alloc _
 have hb1:=aS.new w #[.pointer (some ⟨b,0,none⟩)] 151
 have h1:=h.keeps hk1
 clear h
 by_cases hx:s.data.toList=jP
 ·have hb:(s.toList==[101,120,101,99])=true:=by rw[ByteArray.toList_eq,hx];rfl
  have HS:Hid (bI .file s.data.toList p σ=([.word [[]] .none,.word [gK] .none,.keep 2,.word [aX] .none],σ)):=by show _=_;simp only[bI,hx,if_true]
  clear hx
  go_enter Tryz.func167,Tryz.ntmps167
  go_upto_region 3 with(fail)
  generalize w.heap.size=z at hb1 ⊢
  generalize w.alloc _=w0 at *
  have KE:Hid (PA B b tail ts σ w0):=h1
  have KB1:Hid (Kp B pJ w w0):=Kp.aI hk1
  clear h1 hk1
  go_region_held3 (fun w=>w.cell? ⟨z,0,none⟩=some (.pointer (some ⟨b,0,none⟩))) (exact aS.cell (show aS _ z #[.pointer (some ⟨b,0,none⟩)] 151 by repeat (first|assumption|refine aS.alloc ?_ _)) 0) (first
   |(go_at_call 172
     refine(Iz b 2 z _ (show aS _ z _ _ by((repeat (first|exact hb3|refine aS.alloc ?_ _));(first|done|fail "left")))).mono ?_
     rintro e w4 ⟨f3,rfl,hj,hk⟩
     have al5:=Lib.hid hk
     have KB4:Hid (Kp B pJ w w4):=(show Kp B pJ w _ by((repeat (first|exact KB3.out|refine Kp.alloc ?_ _));(first|done|fail "left"))).trans (Kp.aI hk)
     have hb4:aS w4 z #[.pointer (some ⟨b,0,none⟩)] 151:=(show aS _ z _ _ by((repeat (first|exact hb3|refine aS.alloc ?_ _));(first|done|fail "left"))).keeps hk (fun h=>h)
     have zZ:Hid (PA B b tail ts σ w4):=(show PA B b tail ts σ _ by((repeat (first|exact lQ.out|refine zK ?_ _));(first|done|fail "left"))).keeps hk
     have JX4:Hid (dD w4 b (.word [[]] .none) f1):=(show dD _ b _ _ by((repeat (first|exact JX3.out|refine dD.alloc ?_ _));(first|done|fail "left"))).keeps hk
     have JY4:Hid (dD w4 b (.word [gK] .none) f2):=(show dD _ b _ _ by((repeat (first|exact JY3.out|refine dD.alloc ?_ _));(first|done|fail "left"))).keeps hk
     have JK4:=Lib.hid hj
     clear hj hk)
   |(have g0:=JK4
     go_at_call 46
     refine(fH b [aX] .none _ _ (show Sl _ 0 9 1 _ 1 (bf [aX]) by((repeat (first|exact aP _ 1 _ [aX] _ (by simp) rfl rfl (by simp)|refine Sl.alloc ?_ _|refine Fb ?_ (by assumption)));(first|done|fail "left")))).mono ?_
     rintro e w5 ⟨f4,rfl,hj,hk⟩
     have amc:=Lib.hid hk
     have KB5:Hid (Kp B pJ w w5):=(show Kp B pJ w _ by((repeat (first|exact KB4.out|refine Kp.alloc ?_ _));(first|done|fail "left"))).trans (Kp.aI hk)
     have hb5:aS w5 z #[.pointer (some ⟨b,0,none⟩)] 151:=(show aS _ z _ _ by((repeat (first|exact hb4|refine aS.alloc ?_ _));(first|done|fail "left"))).keeps hk (fun h=>h)
     have NM:Hid (PA B b tail ts σ w5):=(show PA B b tail ts σ _ by((repeat (first|exact zZ.out|refine zK ?_ _));(first|done|fail "left"))).keeps hk
     have JX5:Hid (dD w5 b (.word [[]] .none) f1):=(show dD _ b _ _ by((repeat (first|exact JX4.out|refine dD.alloc ?_ _));(first|done|fail "left"))).keeps hk
     have JY5:Hid (dD w5 b (.word [gK] .none) f2):=(show dD _ b _ _ by((repeat (first|exact JY4.out|refine dD.alloc ?_ _));(first|done|fail "left"))).keeps hk
     have JK5:Hid (dD w5 b (.keep 2) f3):=(show dD _ b _ _ by((repeat (first|exact JK4.out|refine dD.alloc ?_ _));(first|done|fail "left"))).keeps hk
     have JZ5:=Lib.hid hj
     clear hj hk)
   |(have g0:=JX2
     go_at_call 46
     refine(fH b [gK] .none _ _ (show Sl _ 0 9 1 _ 1 (bf [gK]) by((repeat (first|exact aP _ 1 _ [gK] _ (by simp) rfl rfl (by simp)|refine Sl.alloc ?_ _|refine Fb ?_ (by assumption)));(first|done|fail "left")))).mono ?_
     rintro e w3 ⟨f2,rfl,hj,hk⟩
     have ami:=Lib.hid hk
     have KB3:Hid (Kp B pJ w w3):=(show Kp B pJ w _ by((repeat (first|exact KB2.out|refine Kp.alloc ?_ _));(first|done|fail "left"))).trans (Kp.aI hk)
     have hb3:aS w3 z #[.pointer (some ⟨b,0,none⟩)] 151:=(show aS _ z _ _ by((repeat (first|exact hb2|refine aS.alloc ?_ _));(first|done|fail "left"))).keeps hk (fun h=>h)
     have lQ:Hid (PA B b tail ts σ w3):=(show PA B b tail ts σ _ by((repeat (first|exact HP2.out|refine zK ?_ _));(first|done|fail "left"))).keeps hk
     have JX3:Hid (dD w3 b (.word [[]] .none) f1):=(show dD _ b _ _ by((repeat (first|exact JX2.out|refine dD.alloc ?_ _));(first|done|fail "left"))).keeps hk
     have JY3:=Lib.hid hj
     clear hj hk)
   |(go_at_call 46
     refine(fH b [[]] .none _ _ (Zb (show Sl _ 0 9 1 _ 1 (bf [[]]) by((repeat (first|exact aP _ 1 _ [[]] _ (by simp) rfl rfl (by simp)|refine Sl.alloc ?_ _|refine Fb ?_ (by assumption)));(first|done|fail "left"))))).mono ?_
     rintro e w2 ⟨f1,rfl,hj,hk'⟩
     have hk:=Keeps.gJ hk'
     clear hk'
     have amk:=Lib.hid hk
     have KB2:Hid (Kp B pJ w w2):=(show Kp B pJ w _ by((repeat (first|exact KB1.out|refine Kp.alloc ?_ _));(first|done|fail "left"))).trans (Kp.aI hk)
     have hb2:aS w2 z #[.pointer (some ⟨b,0,none⟩)] 151:=(show aS _ z _ _ by((repeat (first|exact hb1|refine aS.alloc ?_ _));(first|done|fail "left"))).keeps hk (fun h=>h)
     have HP2:Hid (PA B b tail ts σ w2):=(show PA B b tail ts σ _ by((repeat (first|exact KE.out|refine zK ?_ _));(first|done|fail "left"))).keeps hk
     have JX2:=Lib.hid hj
     clear hj hk)
   |(go_at_call 45
     refine(lZ NM.out [(.word [[]] .none,f1),(.word [gK] .none,f2),(.keep 2,f3),(.word [aX] .none,f4)] 4 _ _ rfl rfl rfl (by omega) (by intro t ht;simp only[List.mem_cons,List.not_mem_nil,or_false] at ht;rcases ht with rfl|rfl|rfl|rfl;exact JX5.out;exact JY5.out;exact JK5.out;exact JZ5.out) ht).mono ?_
     rintro e w6 ⟨rfl,h6,k6⟩
     have H6:=Lib.hid h6
     have K6:=Lib.hid k6
     have hb6:=hb5.kp k6 (.inr (by decide))
     clear h6 k6))
  all_goals (
   go_wp2_with fail
   go_end0
   rw[HS.out]
   exact Did.planned rfl rfl H6.out KB5.out K6.out)
 ·have hb:(s.toList==[101,120,101,99])=false:=by rw[ByteArray.toList_eq,beq_eq_false_iff_ne];exact hx
  have HS:Hid (bI .file s.data.toList p σ=([.keep 1,.word [aX] .none],σ)):=by show _=_;simp only[bI,if_neg hx]
  clear hx
  go_enter Tryz.func167,Tryz.ntmps167
  go_upto_region 4 with(fail)
  generalize w.heap.size=z at hb1 ⊢
  generalize w.alloc _=w1 at *
  have H1:=Lib.hid h1
  have K1:=Lib.hid hk1
  clear h1 hk1
  have HKP:Hid (∀wx,aS wx z #[.pointer (some ⟨b,0,none⟩)] 151→Calls Tryz.prog 172 #[.int .i64 1,.pointer (some ⟨z,0,none⟩)] wx (KeepPost wx b 1)):=fun wx hbx=>Iz b 1 z wx hbx
  have HWD:Hid (∀(v:Value) (wx:World),Sl wx 0 9 1 v [aX].length (bf [aX])→Calls Tryz.prog 46 #[.pointer (some ⟨b,0,none⟩),.nilFunc,v] wx (MW wx b [aX] .none)):=fun v wx hv=>fH b [aX] .none v wx hv
  go_region_held3 (fun w=>w.cell? ⟨z,0,none⟩=some (.pointer (some ⟨b,0,none⟩))) (first|exact aS.cell (by assumption) 0|exact aS.cell (aS.drew (by assumption)) 0|exact aS.cell (aS.alloc (by assumption) _) 0|exact aS.cell (aS.alloc (aS.drew (by assumption)) _) 0) (first
   |(go_at_call 172
     refine(HKP.out _ (by first|exact hb1|exact aS.alloc (w:=w1.drew) hb1 _)).mono ?_
     rintro e w2 ⟨f1,rfl,hj1,hk2⟩
     have J1:=Lib.hid hj1
     have HKE:=Lib.hid hk2
     have K2:Hid (Keeps Non w w2):=(by first|exact(K1.out.drew).trans hk2 (fun k hk=>.inl hk)|exact(K1.out.drew.alloc _).trans hk2 (fun k hk=>.inl hk))
     have hb2:aS w2 z #[.pointer (some ⟨b,0,none⟩)] 151:=(by first|exact aS.keeps (w:=w1.drew) hb1 hk2 (fun h=>h)|exact aS.keeps (aS.alloc (w:=w1.drew) hb1 _) hk2 (fun h=>h))
     have H2:Hid (PA B b tail ts σ w2):=(by first|exact H1.out.keeps (((Keeps.refl _ _).drew).trans hk2 (fun k hk=>.inl hk))|exact H1.out.keeps (((Keeps.refl _ _).drew.alloc _).trans hk2 (fun k hk=>.inl hk)))
     clear hj1 hk2)
   |(go_at_call 46
     refine(HWD.out _ _ (by first|exact aP _ 1 _ [aX] _ rfl rfl rfl (by simp)|exact(aP w1.drew 1 _ [aX] _ rfl rfl rfl (by simp)).kp (Kp.aI (B:=0) (Ts:=[]) HKE.out) (.inl (by simp)))).mono ?_
     rintro e w3 ⟨f2,rfl,hj2,hk3⟩
     have nY:Keeps Non w2 w3:=(by first|exact hk3|exact((Keeps.refl _ _).alloc _).trans hk3 (fun k hk=>.inl hk))
     have ZX:=Lib.hid (J1.out.keeps nY)
     have J2:=Lib.hid hj2
     have K3:=Lib.hid (K2.out.trans nY (fun k hk=>.inl hk))
     have H3:=Lib.hid (H2.out.keeps nY)
     have hb3:=hb2.keeps nY (fun h=>h)
     clear hj2 hk3 nY)
   |(go_at_call 45
     refine(lZ H3.out [(.keep 1,f1),(.word [aX] .none,f2)] 2 _ _ rfl rfl rfl (by omega) (by intro t ht;simp only[List.mem_cons,List.not_mem_nil,or_false] at ht;rcases ht with rfl|rfl;exact ZX.out;exact J2.out) ht).mono ?_
     rintro e w4 ⟨rfl,h4,k4⟩
     have H4:=Lib.hid h4
     have K4:=Lib.hid k4
     have hb4:=hb3.kp k4 (.inr (by decide))
     clear h4 k4))
  all_goals (
   go_wp2_with fail
   go_end0
   rw[HS.out]
   exact Did.planned rfl rfl H4.out (Kp.aI K3.out) K4.out)
theorem Td{B b:Nat}{tail:PT}{ts:List (Job×Value)}{σ:aT}{w:World}(h:PA B b tail ts σ w)(s:ByteArray)(p:Int)(ht:ts.length≤1099511627000):
 Calls Tryz.prog 47 #[.pointer (some ⟨b,0,none⟩),.string s,.int .i64 p] w (Did B b tail ts (bI .next' s.data.toList p σ) w):=by
 have H0:=Lib.hid h
 clear h
 by_cases h1:s.data.toList=cO
 ·have hb:(s.toList==[112,97,116,104])=true:=by rw[ByteArray.toList_eq,h1];rfl
  have HS:Hid (bI .next' s.data.toList p σ=([.jB],σ)):=by show _=_;simp only[bI,h1,if_true]
  clear h1
  go_enter Tryz.func47,Tryz.ntmps47
  go_upto_region 1 with(fail)
  go_region_held3 (fun _=>True) (trivial) (first
   |(go_at_call 79
     refine(tY b 12 (.func (.func 80) #[.pointer (some ⟨b,0,none⟩)] #[]) rfl ⟨_,_,_,rfl⟩ _).mono ?_
     rintro e w1 ⟨rfl,hk1⟩
     replace hk1:Keeps Non w w1:=(by first|exact hk1|exact hk1.gJ)
     have H1:=Lib.hid (H0.out.keeps hk1)
     have K1:=Lib.hid hk1)
   |(go_at_call 45
     refine(lZ H1.out [(.jB,.func (.func 80) #[.pointer (some ⟨b,0,none⟩)] #[])] 1 _ _ rfl rfl rfl (by omega) (by intro t ht;obtain rfl:=List.mem_singleton.1 ht;rfl) ht).mono ?_
     rintro e w2 ⟨rfl,h2,k2⟩
     have H2:=Lib.hid h2
     have K2:=Lib.hid k2))
  all_goals (
   clear h2 k2 hk1
   go_wp2_with fail
   go_end0
   rw[HS.out]
   exact Did.planned rfl rfl H2.out (Kp.aI K1.out) K2.out)
 ·have hb:(s.toList==[112,97,116,104])=false:=by rw[ByteArray.toList_eq,beq_eq_false_iff_ne];exact h1
  have HS:Hid (bI .next' s.data.toList p σ=([],σ)):=by show _=_;simp only[bI,if_neg h1]
  clear h1
  go_enter Tryz.func47,Tryz.ntmps47
  go_wp2_with fail
  go_end0
  rw[HS.out]
  exact Did.plain (Ts:=[]) rfl rfl H0.out (Kp.refl _ _ _) (by simp)
theorem BQ{w w2 w3:World}{B bm2 bp2 bt2 sz:Nat}{Ts:List TypeId}{f1 f2:Value}(J J':Job)(hJ:J'≠fC∧J'≠gU)(hf:f2=.func (.func 77) #[] #[.pointer (some ⟨bm2,0,none⟩),.pointer (some ⟨bp2,0,none⟩),.pointer (some ⟨bt2,0,none⟩)])
 (hb:aS w2 bm2 #[.slice (some ⟨sz,0,none⟩) 2 2] 26) (k:Kp B Ts w2 w3) (hT:26∉Ts) (hs:w.heap.size≤sz):yJ w w3 [(J,f2),(J',f1)]:=by
 intro v B' n ys hsl t ht he bm bp bt vm hfv hbv
 simp only[List.mem_cons,List.not_mem_nil,or_false] at ht
 rcases ht with rfl|rfl
 ·simp only at hfv
  rw[hf] at hfv
  have e1:bm2=bm:=by simp at hfv;exact hfv.1
  subst e1
  have h2:=(hb.kp k (.inr hT)).inj hbv
  have e2:vm=.slice (some ⟨sz,0,none⟩) 2 2:=by simpa using h2.1.symm
  subst e2
  unfold Ahead
  split
  ·rename_i a n1 c1 a' n' c' h1
   cases h1
   intro e
   have:=hsl.pR (k:=a.block) rfl
   simp only at e
   omega
  ·trivial
 ·exact absurd he (fun e=>e.elim hJ.1 hJ.2)
theorem Tf{B b:Nat}{tail:PT}{ts:List (Job×Value)}{σ:aT}{w:World}(h:PA B b tail ts σ w)(s:ByteArray)(p:Int)(ht:ts.length≤1099511627000):
 Calls Tryz.prog 114 #[.pointer (some ⟨b,0,none⟩),.string s,.int .i64 p] w (Did B b tail ts (bI .more s.data.toList p σ) w):=by
 have H0:=Lib.hid h
 clear h
 by_cases h1:s.data.toList=iO
 ·have hb:(s.toList==[114,101,102])=true:=by rw[ByteArray.toList_eq,h1];rfl
  have HS:Hid (bI .more s.data.toList p σ=([.oP,fC],σ)):=by show _=_;simp only[bI,h1,if_true]
  clear h1
  go_enter Tryz.func114,Tryz.ntmps114
  go_upto_region 1 with(fail)
  go_region_held3 (fun _=>True) (trivial) (first
   |(go_at_call 79
     refine(tY b 12 (.func (.func 129) #[.pointer (some ⟨b,0,none⟩)] #[]) rfl ⟨_,_,_,rfl⟩ _).mono ?_
     rintro e w1 ⟨rfl,hk1⟩
     have WS:Keeps Non w w1:=(by first|exact hk1|exact hk1.gJ|exact((Keeps.refl Non w).alloc _).tn hk1|exact((Keeps.refl Non w).alloc _).tn hk1.gJ|exact Keeps.gJ (((Keeps.refl Non w.drew).alloc _).tn hk1))
     have K1:=Lib.hid WS
     clear WS)
   |(go_at_call 46
     refine(Bc b [iO,jf] .more _ _ (by first|exact aP w1 2 _ [iO,jf] _ rfl rfl rfl (by simp)|exact(aP w 2 _ [iO,jf] _ rfl rfl rfl (by simp)).kp (Kp.aI (B:=0) (Ts:=[]) hk1) (.inl (by simp))|exact(aP w 2 _ [iO,jf] _ rfl rfl rfl (by simp)).kp (Kp.aI (B:=0) (Ts:=[]) hk1.gJ) (.inl (by simp))|exact aP w1.drew 2 _ [iO,jf] _ rfl rfl rfl (by simp)|exact(aP w1 2 _ [iO,jf] _ rfl rfl rfl (by simp)).drewN 1)).mono ?_
     rintro e w2 ⟨f2,rfl,hj2,hk2,bm2,bp2,bt2,hf2,WT⟩
     have HF2:=Lib.hid hf2
     have abk:=Lib.hid WT
     clear hf2 WT
     have Po:Keeps Non w w2:=K1.out.tn (by first|exact hk2|exact hk2.gJ|exact((Keeps.refl _ _).alloc _).tn hk2|exact((Keeps.refl _ _).alloc _).tn hk2.gJ|exact Keeps.gJ (((Keeps.refl _ _).alloc _).tn hk2))
     have J2:=Lib.hid hj2
     have K2:=Lib.hid Po
     have H2:=Lib.hid (H0.out.keeps Po))
   |(go_at_call 45
     refine(lZ H2.out [(.oP,.func (.func 129) #[.pointer (some ⟨b,0,none⟩)] #[]),(fC,f2)] 2 _ _ rfl rfl rfl (by omega) (by intro t ht;simp only[List.mem_cons,List.not_mem_nil,or_false] at ht;rcases ht with rfl|rfl;rfl;exact J2.out) ht).mono ?_
     rintro e w3 ⟨rfl,h3,k3⟩
     have H3:=Lib.hid h3
     have K3:=Lib.hid k3))
  all_goals (
   clear h3 k3 hk1 hk2 Po hj2
   go_wp2_with fail
   go_end0
   rw[HS.out]
   exact Did.E8 rfl rfl H3.out (Kp.aI K2.out) K3.out (BQ _ _ (by decide) HF2.out abk.out K3.out (by decide) (by first|exact Nat.le_refl _|exact K1.out.size)))
 ·have hb:(s.toList==[114,101,102])=false:=by rw[ByteArray.toList_eq,beq_eq_false_iff_ne];exact h1
  have HS:Hid (bI .more s.data.toList p σ=([.oC,gU],σ)):=by show _=_;simp only[bI,if_neg h1]
  clear h1
  go_enter Tryz.func114,Tryz.ntmps114
  go_upto_region 2 with(fail)
  go_region_held3 (fun _=>True) (trivial) (first
   |(go_at_call 79
     refine(tY b 8 (.func (.func 130) #[.pointer (some ⟨b,0,none⟩)] #[]) rfl ⟨_,_,_,rfl⟩ _).mono ?_
     rintro e w1 ⟨rfl,hk1⟩
     have WS:Keeps Non w w1:=(by first|exact hk1|exact hk1.gJ|exact((Keeps.refl Non w).alloc _).tn hk1|exact((Keeps.refl Non w).alloc _).tn hk1.gJ|exact Keeps.gJ (((Keeps.refl Non w.drew).alloc _).tn hk1))
     have K1:=Lib.hid WS
     clear WS)
   |(go_at_call 46
     refine(Bc b [cO,iY] .next' _ _ (by first|exact aP w1 2 _ [cO,iY] _ rfl rfl rfl (by simp)|exact(aP w 2 _ [cO,iY] _ rfl rfl rfl (by simp)).kp (Kp.aI (B:=0) (Ts:=[]) hk1) (.inl (by simp))|exact(aP w 2 _ [cO,iY] _ rfl rfl rfl (by simp)).kp (Kp.aI (B:=0) (Ts:=[]) hk1.gJ) (.inl (by simp))|exact aP w1.drew 2 _ [cO,iY] _ rfl rfl rfl (by simp)|exact(aP w1 2 _ [cO,iY] _ rfl rfl rfl (by simp)).drewN 1)).mono ?_
     rintro e w2 ⟨f2,rfl,hj2,hk2,bm2,bp2,bt2,hf2,WT⟩
     have HF2:=Lib.hid hf2
     have abk:=Lib.hid WT
     clear hf2 WT
     have Po:Keeps Non w w2:=K1.out.tn (by first|exact hk2|exact hk2.gJ|exact((Keeps.refl _ _).alloc _).tn hk2|exact((Keeps.refl _ _).alloc _).tn hk2.gJ|exact Keeps.gJ (((Keeps.refl _ _).alloc _).tn hk2))
     have J2:=Lib.hid hj2
     have K2:=Lib.hid Po
     have H2:=Lib.hid (H0.out.keeps Po))
   |(go_at_call 45
     refine(lZ H2.out [(.oC,.func (.func 130) #[.pointer (some ⟨b,0,none⟩)] #[]),(gU,f2)] 2 _ _ rfl rfl rfl (by omega) (by intro t ht;simp only[List.mem_cons,List.not_mem_nil,or_false] at ht;rcases ht with rfl|rfl;rfl;exact J2.out) ht).mono ?_
     rintro e w3 ⟨rfl,h3,k3⟩
     have H3:=Lib.hid h3
     have K3:=Lib.hid k3))
  all_goals (
   clear h3 k3 hk1 hk2 Po hj2
   go_wp2_with fail
   go_end0
   rw[HS.out]
   exact Did.E8 rfl rfl H3.out (Kp.aI K2.out) K3.out (BQ _ _ (by decide) HF2.out abk.out K3.out (by decide) (by first|exact Nat.le_refl _|exact K1.out.size)))
def gY(ts:List (Job×Value)):List Job:=(ts.map Prod.fst).reverse
theorem lS(ts:List (Job×Value))(j:Job)(f:Value):gY (ts++[(j,f)])=j :: gY ts:=by simp[gY]
theorem rV(ts us:List (Job×Value)):gY (ts++us)=(us.map Prod.fst).reverse++gY ts:=by simp[gY]
theorem wJ(ts:List (Job×Value)):(gY ts).length=ts.length:=by simp[gY]
theorem xM.fit{ts:List (Job×Value)}{σ:aT}(h:xM ts.length σ):Fit ts σ:=⟨h.all,h.todo,h.nodes,h.above,h.path,h.dirs⟩
theorem IB{σ σ':aT}{most:Nat}{s:List UInt8}(h:σ.next most=(.some s,σ')):σ.err=0∧∃k,8≤k∧s.length+8≤k∧k≤σ.rest.length∧s.length≤most∧σ'={σ with rest:=σ.rest.drop k,at':=σ.at'+k}:=by
 unfold aT.next at h
 split at h
 ·cases h
 ·rename_i h0
  split at h
  ·cases h
  ·split at h
   ·cases h
   ·split at h
    ·cases h
    ·cases h
     exact⟨Classical.byContradiction fun e=>h0 (.inl e),_,by omega,by rw[List.length_take];omega,by omega,by rw[List.length_take];omega,rfl⟩
theorem IC{σ σ':aT}{most:Nat}(h:σ.next most=(.none,σ')):σ'=σ∨∃e,σ'=σ.fail e σ.at':=by
 unfold aT.next at h
 split at h
 ·cases h;exact .inl rfl
 ·split at h
  ·cases h;exact .inr ⟨3,rfl⟩
  ·split at h
   ·cases h;exact .inl rfl
   ·split at h
    ·cases h;exact .inr ⟨4,rfl⟩
    ·cases h
theorem xM.fail{n:Nat}{σ:aT}(h:xM n σ)(e p:Int):xM n (σ.fail e p):=by
 obtain⟨h1,h2,h3,h4,h5,h6⟩:=h
 obtain⟨q1,q2,q3,q4,q5⟩:=fO σ e p
 exact⟨by rw[q4];omega,by rw[q4];exact h2,by rw[q2,q4];exact h3,by rw[q1,q4];exact h4,by rw[q3,q4];exact h5,fun o ho=>by rw[q4];exact h6 o (by rwa [q1] at ho)⟩
theorem WU{B b:Nat}{tail:PT}{ts:List (Job×Value)}{σ:aT}{w w':World}{ed:Ending}(may:List (List UInt8))(act:vw)(s:List UInt8)(p:Int)(hm:s∉may)(he:ed=.returned (.tuple #[]))(h:PA B b tail ts (σ.fail 5 p) w')(hk:Kp B [TB] w w'):Did B b tail ts (aN (.word may act) s p σ) w ed w':=by
 have e:aN (.word may act) s p σ=([],σ.fail 5 p):=by simp only[aN,if_neg hm]
 rw[e]
 exact Did.plain he rfl h hk (by simp)
theorem uM{B b:Nat}{tail:PT}{ts:List (Job×Value)}{σ:aT}{w w':World}{ed:Ending}(may:List (List UInt8))(act:vw)(s:List UInt8)(p:Int)(hm:s∈may)(h:Did B b tail ts (bI act s p σ) w ed w'):Did B b tail ts (aN (.word may act) s p σ) w ed w':=by
 have e:aN (.word may act) s p σ=bI act s p σ:=by simp only[aN,if_pos hm]
 rw[e]
 exact h
theorem WV(w:World):Sem.run Tryz.prog (binOp BinOp.neq 111 Value.nilFunc Value.nilFunc) w=.ok (.bool false) w:=by kernel_rfl
theorem Ti(w:World)(fn:Fn)(x y:Array Value):Sem.run Tryz.prog (binOp BinOp.neq 111 (Value.func fn x y) Value.nilFunc) w=.ok (.bool true) w:=by kernel_rfl
theorem Tj{B b:Nat}{tail:PT}{ts:List (Job×Value)}{σ:aT}{w:World}(h:PA B b tail ts σ w)(may:List (List UInt8))(act:vw)(s:ByteArray)(p:Int)(bm bp bt:Nat)(vm:Value)
 (hbm:aS w bm #[vm] 26) (hsm:Sl w 0 9 1 vm may.length (bf may)) (hbp:aS w bp #[.pointer (some ⟨b,0,none⟩)] 151) (hbt:aS w bt #[Jq b act] 111)
 (hl:σ.nodes.length≤1099511627776) (ha:σ.above.length≤1099511627776) (ht:ts.length≤1099511627000) (hne:(Job.word may act).needs=true→1≤σ.above.length):
 Calls Tryz.prog 77 #[.string s,.int .i64 p,.pointer (some ⟨bm,0,none⟩),.pointer (some ⟨bp,0,none⟩),.pointer (some ⟨bt,0,none⟩)] w (Did B b tail ts (aN (.word may act) s.data.toList p σ) w):=by
 have cm:w.cell? ⟨bm,0,none⟩=some vm:=hbm.cell 0
 have cp:w.cell? ⟨bp,0,none⟩=some (.pointer (some ⟨b,0,none⟩)):=hbp.cell 0
 have ct:w.cell? ⟨bt,0,none⟩=some (Jq b act):=hbt.cell 0
 obtain⟨a0,c0,rfl,-,-⟩:=hsm.shape
 have H0:=Lib.hid h
 have HS:=Lib.hid hsm
 have Q5:=Lib.hid hne
 clear h hbm hbp hbt hsm hne
 by_cases hm:s.data.toList∈may
 ·have HD:Hid (decide (s.data.toList∈may)=true):=decide_eq_true hm
  have HM:=Lib.hid hm
  clear hm
  have hn0:=WV w
  have hn1:∀F:Nat,Sem.run Tryz.prog (binOp BinOp.neq 111 (Value.func (.func F) #[.pointer (some ⟨b,0,none⟩)] #[]) Value.nilFunc) w=.ok (.bool true) w:=fun F=>Ti w _ _ _
  cases act
  all_goals (
   unfold Jq at ct
   go_enter Tryz.func77,Tryz.ntmps77
   go_wp2_with fail
   refine(zJ may _ s _ HS.out).mono ?_
   rintro e w1 ⟨rfl,rfl⟩
   rw[HD.out]
   go_wp2_with fail)
  ·go_end0
   exact uM _ _ _ _ HM.out (Did.plain (Ts:=[]) rfl rfl H0.out (Kp.refl _ _ _) (by simp))
  ·refine(open_any H0.out s p hl ha).mono ?_
   rintro e w1 ⟨rfl,h1,k1⟩
   have H1:=Lib.hid h1
   have K1:=Lib.hid k1
   clear h1 k1
   go_wp2_with fail
   go_end0
   exact uM _ _ _ _ HM.out (Did.plain rfl (by simp only[bI]) H1.out K1.out (by simp))
  ·refine(WM H0.out s p hl ha ht).mono ?_
   rintro e w1 hd
   obtain rfl:=hd.1
   have IU:=Lib.hid hd
   clear hd
   go_wp2_with fail
   go_end0
   exact uM _ _ _ _ HM.out IU.out
  ·refine(WR H0.out s p ht).mono ?_
   rintro e w1 hd
   obtain rfl:=hd.1
   have IU:=Lib.hid hd
   clear hd
   go_wp2_with fail
   go_end0
   exact uM _ _ _ _ HM.out IU.out
  ·refine(Y9 H0.out s p ha (Q5.out rfl) ht).mono ?_
   rintro e w1 hd
   obtain rfl:=hd.1
   have IU:=Lib.hid hd
   clear hd
   go_wp2_with fail
   go_end0
   exact uM _ _ _ _ HM.out IU.out
  ·refine(Td H0.out s p ht).mono ?_
   rintro e w1 hd
   obtain rfl:=hd.1
   have IU:=Lib.hid hd
   clear hd
   go_wp2_with fail
   go_end0
   exact uM _ _ _ _ HM.out IU.out
  ·refine(Tf H0.out s p ht).mono ?_
   rintro e w1 hd
   obtain rfl:=hd.1
   have IU:=Lib.hid hd
   clear hd
   go_wp2_with fail
   go_end0
   exact uM _ _ _ _ HM.out IU.out
 ·have HD:Hid (decide (s.data.toList∈may)=false):=decide_eq_false hm
  have HM:Hid (s.data.toList∉may):=hm
  clear hm ct
  go_enter Tryz.func77,Tryz.ntmps77
  go_wp2_with fail
  refine(zJ may _ s _ HS.out).mono ?_
  rintro e w1 ⟨rfl,rfl⟩
  rw[HD.out]
  go_wp2_with fail
  refine(kH H0.out 5 p).mono ?_
  rintro e w1 ⟨rfl,h1,k1⟩
  have H1:=Lib.hid h1
  have K1:=Lib.hid k1
  clear h1 k1
  go_wp2_with fail
  go_end0
  exact WU _ _ _ _ HM.out rfl H1.out K1.out
end Go.Proofs.YtdkogijdfgfpeaaGreatDoor
