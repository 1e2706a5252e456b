/- (*Store).Export. -/
import Derived.Test.YtdkogijdfgfpeaaGreatDoorZRefX
import Derived.Test.YtdkogijdfgfpeaaGreatDoorZClosW
import Derived.Test.YtdkogijdfgfpeaaGreatDoorZQClosP
import Derived.Test.YtdkogijdfgfpeaaGreatDoorZRefS
import Derived.Test.YtdkogijdfgfpeaaGreatDoorZPack
import Derived.Laws.EntriesVeiled
set_option linter.unusedVariables false
namespace Go.Proofs.YtdkogijdfgfpeaaGreatDoor
open Go Go.RowKit
set_option maxHeartbeats 6400000
set_option maxRecDepth 100000
def Pj(L:aH)(roots:List (List UInt8))(E:Int)(T:List UInt8):Prop:=
 ((∃r∈roots,aA L r=none)∧E=15∧T=[])∨((∀r∈roots,(aA L r).isSome=true)∧∃K,rO L roots K∧E=0∧T=Gq (pU L (jO L K)))
def Dc(w:World)(L:aH)(roots:List (List UInt8))(ed:Ending)(w':World):Prop:=
 ∃E T,Pj L roots E T∧ed=.returned (.tuple #[.string ⟨T.toArray⟩,.int .i64 E])∧Keeps Non w w'
theorem Iw{L:aH}{all out:List (List UInt8)}(h:Told L all out){k:Nat}{p:List UInt8}(hk:out[k]? =some p):∃e,e∈L∧aA L p=some e∧e.path=p:=by
 obtain⟨a,b,hab⟩:=List.append_of_mem (List.mem_of_getElem? hk)
 obtain⟨e,he,oz,-⟩:=h.ahead a p b hab
 obtain⟨o,ho⟩:=Option.isSome_iff_exists.1 (dH.2 ⟨e,he,oz⟩)
 exact⟨o,(jV ho).1,ho,(jV ho).2⟩
theorem E5{L:aH}(h:bK L)(K:List (List UInt8)):(jO L K).length≤10:=Nat.le_trans (kN (uz L K)) h.ten
theorem Pm{F:Nat→Prop}{s:Nat}{L:aH}(w:World)(h:aU w F s L)(roots:List (List UInt8))(vr:Value)(hr:Rd w 1 vr roots.length (bf roots))(hrl:roots.length≤1099511627776)(hrs:∀r∈roots,r.length≤1099511627776):
 Calls Tryz.prog 19 #[pv s,vr] w (Dc w L roots):=by
 have HS:=Lib.hid h
 have yc:Hid (Tryz.prog.underlying 82=some (.map 9 81)):=Tryz.underlying82
 obtain⟨ra,rc,rfl,-,hrc⟩:=hr.shape
 unfold maxLen at hrc
 have CU:=Lib.hid (BI w h roots _ hr hrl hrs)
 clear h hr hrs
 unfold pv at *
 go_enter Tryz.func19,Tryz.ntmps19
 go_wp2_with fail
 refine CU.out.mono ?_
 clear CU
 rintro ed w1 (⟨hf,rfl,hk1⟩|⟨hall,K,v,hK,rfl,hs1,hk1⟩)
 ·have HP:Hid (Dc w L roots (.returned (.tuple #[.string ⟨#[]⟩,.int .i64 15])) w1):=⟨15,[],.inl ⟨hf,rfl,rfl⟩,rfl,hk1⟩
  clear hf hk1
  go_wp2_with fail
  refine bodyPost_ret (v:=.tuple #[.string ⟨#[]⟩,.int .i64 15]) (by simp[results,Tryz.results19,go_sem]) rfl ?_
  exact HP.out
 ·have Jg:=E5 HS.out.ok K
  have HT:=Lib.hid (uz L K)
  have HLEN:=Lib.hid (Ju HS.out.ok Jg)
  have HK:=Lib.hid hK
  have KD:=Lib.hid hall
  have iy:=Lib.hid hk1
  have oI:=Lib.hid (HS.out.non hk1)
  obtain⟨l,hl⟩:∃l,jO L K=l:=⟨_,rfl⟩
  have HLQ:=Lib.hid hl
  rw[hl] at hs1 Jg HT HLEN
  obtain⟨la,lc,rfl,hl1,hl2⟩:=hs1.shape
  unfold maxLen at hl2
  have HSL:=Lib.hid hs1.rd
  obtain⟨T,hT⟩:∃T,Gq (pU L l)=T:=⟨_,rfl⟩
  have HTQ:=Lib.hid hT
  rw[hT] at HLEN
  have hb0:=sG.new w1 T (Nat.le_trans HLEN.out (by decide))
  have hq0:T=aC [dK]++kU L l 0:=by rw[←hT,EY];simp[aC]
  clear hall hK hk1 hl hs1 hT
  go_upto_region 5 with(fail)
  obtain⟨bb,hbb⟩:∃bb,w1.heap.size=bb:=⟨_,rfl⟩
  rw[hbb] at hb0
  rw[hbb]
  generalize w1.alloc (.cells #[.pointer none,.slice none 0 0] 93)=w2 at *
  have HB0:Hid (sG w1 bb T (aC [dK]++kU L l 0) w2):=by rw[←hq0];exact hb0
  clear hb0 hq0 hbb
  go_wp2_with fail
  refine(Jv HB0.out [dK] 1 _ _ rfl ?c1 rfl (by omega) (by omega) (by simp[roomOf])).mono ?_
  case c1=>rfl
  rintro e w3 ⟨rfl,hq⟩
  have HB1:=Lib.hid hq
  clear hq HB0
  go_wp2_with fail
  refine(wI _ HB1.out).mono ?_
  rintro e w4 ⟨rfl,hq⟩
  have HB2:=Lib.hid hq
  clear hq HB1
  go_wp2_with fail
  obtain⟨mb,m,-,g2,g3,g4,g5,g6⟩:=oI.out.map
  have HG2:=Lib.hid g2
  have HG3:=Lib.hid g3
  have HG5:=Lib.hid g5
  have HG6:=Lib.hid g6
  clear g2 g3 g4 g5 g6
  go_loopg [28] l.length (fun gk iv wr=>∃k:Nat,gk=l.length-k∧k≤l.length∧iv=.int .i64 k∧Hid (sG w1 bb T (kU L l k) wr))
  case atStart=>exact⟨0,rfl,Nat.zero_le _,rfl,HB2⟩
  case round=>
   clear HB2
   obtain⟨k,rfl,hk,rfl,HB⟩:=hrel
   by_cases hlt:k<l.length
   ·obtain⟨p,hp⟩:∃p,l[k]? =some p:=⟨_,List.getElem?_eq_getElem hlt⟩
    obtain⟨e,hel,hfe,oz⟩:=Iw HT.out hp
    subst oz
    have ahR:=oI.out.ok.C9 (p:=e.path) (by rw[hfe];rfl)
    obtain⟨e',q,hf',-,-,hg,hE⟩:∃e' q,aA L e.path=some e'∧e'∈L∧e'.path=e.path∧getM m e.path=some (pv q)∧lq w1 F q e':=by
     rcases aU.look HG3.out HG5.out HG6.out e.path with⟨hn,-⟩|h
     ·rw[hfe] at hn;cases hn
     ·exact h
    rw[hfe] at hf'
    cases hf'
    obtain⟨b',o',cc,hsh,-,-,-,kZ,hcc,-⟩:=(HSL.out.non HB.out.non).pos (by omega)
    cases hsh
    have c0:wr.cell? ⟨b',o'+k,none⟩=some (.string ⟨e.path.toArray⟩):=(hcc k (by omega)).trans (by rw[dJ _ _ hlt];have:=(List.getElem?_eq_some_iff.1 hp).2;rw[this];rfl)
    have cs:=(HG2.out.keeps HB.out.non fun h=>h).cell 0
    simp only[List.getElem?_toArray,List.getElem?_cons_zero] at cs
    have KG:=Lib.hid (HG3.out.keeps HB.out.non fun h=>h)
    have iG:Hid ((getM m e.path).getD (.pointer none)=.pointer (some ⟨q,0,none⟩)):=by show _=_;rw[hg];rfl
    obtain⟨h31,h32⟩:=oI.out.ok.Jt hel
    have hpk:=(nI (oI.out.ok.good e hel).2.1).2.2
    have abg:=Lib.hid h32
    have VP:Hid (sG w1 bb T ((aC [cO,e.path]++aJ e.tree++aC [fQ])++(kR e 0++kU L l (k+1))) wr):=by
     have h1:=HB.out
     rw[EX hp hfe,Ir,List.append_assoc] at h1
     exact h1
    obtain⟨-,vt,vr,h1,h2,h3,h4,h5⟩:=hE
    obtain⟨va,vc,rfl,hv1,hv2⟩:=h3.shape
    unfold maxLen at hv2
    have HEB:=Lib.hid h1
    have KX:=Lib.hid h3
    clear hg hfe hcc hp h1 h2 h3 h4 h5 h32 hel
    go_upto_region 10 with(first|(at_lookup;refine eG _ rfl _ _ _ rfl _ _ yc.out Tryz.underlying9 (.pointer none) (Tryz.zeroValue81 _) mb m rfl KG.out e.path rfl (by omega) ?_;rw[iG.out]))
    clear c0 cs HB KG iG
    go_cut [] (fun wx=>Hid (sG w1 bb T (kR e 0++kU L l (k+1)) wx))
    case first=>
     obtain⟨sA,hsA⟩:∃sA:ByteArray,(⟨(aC [cO,e.path]).toArray⟩:ByteArray)=sA:=⟨_,rfl⟩
     obtain⟨sB,hsB⟩:∃sB:ByteArray,(⟨(aJ e.tree).toArray⟩:ByteArray)=sB:=⟨_,rfl⟩
     obtain⟨sC,hsC⟩:∃sC:ByteArray,(⟨(aC [fQ]).toArray⟩:ByteArray)=sC:=⟨_,rfl⟩
     obtain⟨sD,hsD⟩:∃sD:ByteArray,sA++sB=sD:=⟨_,rfl⟩
     obtain⟨sE,hsE⟩:∃sE:ByteArray,sD++sC=sE:=⟨_,rfl⟩
     have hla:(aC [cO,e.path]).length≤100:=Nat.le_trans (dL _) (by simp[roomOf];omega)
     have hlc:(aC [fQ]).length≤100:=Nat.le_trans (dL _) (by simp[roomOf])
     have ajL:∀W:World,(Op.stringOp .add sA sB).run Tryz.prog W=.ok (.string sD) W:=fun W=>by
      rw[run_string_add_sum W _ _ (by rw[←hsA,←hsB];show(aC [cO,e.path]).toArray.size+(aJ e.tree).toArray.size≤_;simp only[List.size_toArray];omega),hsD]
     have hde:sD=⟨(aC [cO,e.path]++aJ e.tree).toArray⟩:=by rw[←hsD,←hsA,←hsB,dW]
     have ajM:∀W:World,(Op.stringOp .add sD sC).run Tryz.prog W=.ok (.string sE) W:=fun W=>by
      rw[run_string_add_sum W _ _ (by rw[hde,←hsC];show(aC [cO,e.path]++aJ e.tree).toArray.size+(aC [fQ]).toArray.size≤_;simp only[List.size_toArray,List.length_append];omega),hsE]
     have hee:sE=⟨(aC [cO,e.path]++aJ e.tree++aC [fQ]).toArray⟩:=by rw[←hsE,hde,←hsC,dW]
     obtain⟨RX,hRX⟩:∃RX,(aC [cO,e.path]++aJ e.tree++aC [fQ])++(kR e 0++kU L l (k+1))=RX:=⟨_,rfl⟩
     rw[hRX] at VP
     have Jk:∀(wx:World) (sz:Nat),sG w1 bb T RX wx→aS wx sz #[.string ⟨#[112,97,116,104]⟩,.string ⟨e.path.toArray⟩] 9→
      Calls Tryz.prog 41 #[.slice (some ⟨sz,0,none⟩) 2 2] wx fun ed w'=>ed=.returned (.string sA)∧sG w1 bb T RX w'∧Keeps Non wx w':=fun wx sz hb hk=>by
      rw[←hsA]
      refine(put_any _ [cO,e.path] wx (N8 2 _ hk rfl rfl (by simp)) (by simp) (by simp[roomOf];omega)).mono ?_
      rintro ed w' ⟨rfl,hk⟩
      exact⟨rfl,hb.keeps hk,hk⟩
     have sF:Hid (∀(wx:World) (sz:Nat),sG w1 bb T RX wx→aS wx sz #[.string ⟨#[114,101,102,115]⟩] 9→
      Calls Tryz.prog 41 #[.slice (some ⟨sz,0,none⟩) 1 1] wx fun ed w'=>ed=.returned (.string sC)∧sG w1 bb T RX w'):=fun wx sz hb hk=>by
      rw[←hsC]
      refine(put_any _ [fQ] wx (N8 1 _ hk rfl rfl (by simp)) (by simp) (by simp[roomOf])).mono ?_
      rintro ed w' ⟨rfl,hk⟩
      exact⟨rfl,hb.keeps hk⟩
     obtain⟨sz,hsz⟩:∃sz,wr.heap.size=sz:=⟨_,rfl⟩
     have P9:=Lib.hid hsz
     have KE:Hid (Calls Tryz.prog 41 #[.slice (some ⟨wr.heap.size,0,none⟩) 2 2] (wr.alloc (.cells #[.string ⟨#[112,97,116,104]⟩,.string ⟨e.path.toArray⟩] 9)).drew fun ed w'=>ed=.returned (.string sA)∧sG w1 bb T RX w'):=
      (Jk _ _ (VP.out.alloc _).drew (aS.new _ _ _)).mono fun ed w' h=>⟨h.1,h.2.1⟩
     have HP2:Hid (Calls Tryz.prog 41 #[.slice (some ⟨wr.heap.size,0,none⟩) 2 2] ((wr.alloc (.cells #[.string ⟨#[112,97,116,104]⟩,.string ⟨e.path.toArray⟩] 9)).alloc (.cells #[.string ⟨#[114,101,102,115]⟩] 9)).drew fun ed w'=>ed=.returned (.string sA)∧sG w1 bb T RX w'∧aS w' (wr.heap.size+1) #[.string ⟨#[114,101,102,115]⟩] 9):=
      (Jk _ _ ((VP.out.alloc _).alloc _).drew ((aS.new _ _ _).alloc _)).mono fun ed w' h=>⟨h.1,h.2.1,by
        have h1:=(aS.new (wr.alloc (.cells #[.string ⟨#[112,97,116,104]⟩,.string ⟨e.path.toArray⟩] 9)) #[.string ⟨#[114,101,102,115]⟩] 9).keeps ((Keeps.refl Non _).drew.tn h.2.2) (fun h=>h)
        simpa using h1⟩
     have lQ:Hid (Calls Tryz.prog 41 #[.slice (some ⟨wr.heap.size+1,0,none⟩) 2 2] ((wr.alloc (.cells #[.string ⟨#[114,101,102,115]⟩] 9)).alloc (.cells #[.string ⟨#[112,97,116,104]⟩,.string ⟨e.path.toArray⟩] 9)).drew fun ed w'=>ed=.returned (.string sA)∧sG w1 bb T RX w'∧aS w' wr.heap.size #[.string ⟨#[114,101,102,115]⟩] 9):=
      (Jk _ _ ((VP.out.alloc _).alloc _).drew (show aS ((wr.alloc (.cells #[.string ⟨#[114,101,102,115]⟩] 9)).alloc (.cells #[.string ⟨#[112,97,116,104]⟩,.string ⟨e.path.toArray⟩] 9)) (wr.heap.size+1) #[.string ⟨#[112,97,116,104]⟩,.string ⟨e.path.toArray⟩] 9 by
        have h1:=aS.new (wr.alloc (.cells #[.string ⟨#[114,101,102,115]⟩] 9)) #[.string ⟨#[112,97,116,104]⟩,.string ⟨e.path.toArray⟩] 9
        simpa using h1)).mono fun ed w' h=>⟨h.1,h.2.1,((aS.new wr #[.string ⟨#[114,101,102,115]⟩] 9).alloc _).keeps ((Keeps.refl Non _).drew.tn h.2.2) (fun h=>h)⟩
     clear Jk hsz
     obtain⟨nn,hnn⟩:∃nn:Int,(((aC [cO,e.path]++aJ e.tree++aC [fQ]).length:Nat):Int)=nn:=⟨_,rfl⟩
     have HWR:Hid (∀wx,sG w1 bb T RX wx→Calls Tryz.prog 40 #[.pointer (some ⟨bb,0,none⟩),.string sE] wx fun ed w'=>ed=.returned (.tuple #[.int .i64 nn,.nilIface])∧sG w1 bb T (kR e 0++kU L l (k+1)) w'):=fun wx hb=>by
      rw[hee,←hnn]
      exact wI _ (by rw[hRX];exact hb)
     clear hnn
     have WC:Hid (∀wx,sG w1 bb T RX wx→wx.cell? ⟨q,0,none⟩=some (.string sB)):=fun wx hb=>by
      rw[←hsB]
      exact(HEB.out.keeps hb.non fun h=>h).cell 0
     have HQE:Hid (∀wx,sG w1 bb T (kR e 0++kU L l (k+1)) wx→wx.cell? ⟨q,0,none⟩=some (.string sB)):=fun wx hb=>by
      rw[←hsB]
      exact(HEB.out.keeps hb.non fun h=>h).cell 0
     have q0:=WC.out wr VP.out
     have HB:=VP.out
     clear VP hsA hsB hsC hsD hsE hde hee hRX hla hlc
     go_region_held3 (fun w'=>w'.cell? ⟨q,0,none⟩=some (.string sB)) (with_reducible first|exact q0|exact WC.out _ HB|exact WC.out _ HB.drew|exact WC.out _ (HB.alloc _).drew|exact WC.out _ (HB.alloc _)|exact WC.out _ ((HB.alloc _).alloc _).drew) (first
      |(go_at_call 41
        with_reducible refine KE.out.mono ?_
        clear KE HP2 lQ
        rintro ed w' ⟨rfl,hq⟩
        clear HB
        have HB:=hq
        clear hq
        have q0:=WC.out _ HB)
      |(go_at_call 41
        with_reducible refine HP2.out.mono ?_
        clear KE HP2 lQ
        rintro ed w' ⟨rfl,hq,hbR⟩
        clear HB
        have HB:=hq
        clear hq
        have q0:=WC.out _ HB)
      |(go_at_call 41
        with_reducible refine lQ.out.mono ?_
        clear KE HP2 lQ
        rintro ed w' ⟨rfl,hq,hbR⟩
        clear HB
        have HB:=hq
        clear hq
        have q0:=WC.out _ HB)
      |(go_at_call 41
        with_reducible refine(sF.out _ _ HB hbR).mono ?_
        clear sF
        rintro ed w' ⟨rfl,hq⟩
        clear HB
        have HB:=hq
        clear hq
        have q0:=WC.out _ HB)
      |(go_at_call 41
        refine(sF.out _ _ (HB.alloc _) (aS.new _ _ _)).mono ?_
        clear sF
        rintro ed w' ⟨rfl,hq⟩
        clear HB
        have HB:=hq
        clear hq
        have q0:=WC.out _ HB)
      |(go_at_call 40
        refine(HWR.out _ HB).mono ?_
        rintro ed w' ⟨rfl,hq⟩
        have q0:=HQE.out _ hq))
     all_goals (go_wp2_with fail)
     all_goals go_meet
     all_goals exact hq
    case rest=>
     have HB1:Hid (sG w1 bb T (kR e 0++kU L l (k+1)) wc):=hcut
     generalize wc=w5 at *
     have q2:w5.cell? ⟨q,2,none⟩=some (.slice va e.refs.length vc):=(HEB.out.keeps HB1.out.non fun h=>h).cell 2
     clear VP
     go_wp2_with fail
     go_loopg [55] e.refs.length (fun gj jv wq=>∃j:Nat,gj=e.refs.length-j∧j≤e.refs.length∧jv=.int .i64 j∧Hid (sG w1 bb T (kR e j++kU L l (k+1)) wq))
     case atStart=>exact⟨0,rfl,Nat.zero_le _,rfl,HB1⟩
     case round=>
      clear HB1 q2
      obtain⟨j,rfl,hj,rfl,HB⟩:=hrel
      by_cases hjl:j<e.refs.length
      ·obtain⟨y,hy⟩:∃y,e.refs[j]? =some y:=⟨_,List.getElem?_eq_getElem hjl⟩
       have ahU:=abg.out y (List.mem_of_getElem? hy)
       obtain⟨b2,o2,BG,hsh,-,-,-,Lj,hcc,-⟩:=(KX.out.non HB.out.non).pos (by omega)
       cases hsh
       have c1:wr.cell? ⟨b2,o2+j,none⟩=some (.string ⟨y.toArray⟩):=(hcc j (by omega)).trans (by rw[dJ _ _ hjl];have:=(List.getElem?_eq_some_iff.1 hy).2;rw[this];rfl)
       have ZW:Hid (sG w1 bb T (aC [iO,y]++(kR e (j+1)++kU L l (k+1))) wr):=by
        have h1:=HB.out
        rw[BP hy,List.append_assoc] at h1
        exact h1
       clear hcc hy HB
       go_wp2_with fail
       refine(Jv ZW.out [iO,y] 2 _ _ rfl ?c2 rfl (by omega) (by omega) (by simp[roomOf];omega)).mono ?_
       case c2=>rfl
       rintro e2 w6 ⟨rfl,hq⟩
       have HB1:=Lib.hid hq
       clear hq ZW c1
       go_wp2_with fail
       refine(wI _ HB1.out).mono ?_
       rintro e2 w7 ⟨rfl,hq⟩
       have HB2:=Lib.hid hq
       clear hq HB1
       go_wp2_with fail
       go_roundg (e.refs.length-(j+1))
       case measure=>omega
       case rel=>exact⟨j+1,rfl,by omega,by go_num,HB2⟩
      ·have hj2:e.refs.length=j:=by omega
       subst hj2
       have ZW:Hid (sG w1 bb T (aC [jf,(sumOf (aJ e.tree)).data.toList]++kU L l (k+1)) wr):=by
        have h1:=HB.out
        rw[EZ] at h1
        exact h1
       have q0:wr.cell? ⟨q,0,none⟩=some (.string ⟨(aJ e.tree).toArray⟩):=(HEB.out.keeps HB.out.non fun h=>h).cell 0
       clear HB
       go_wp2_with fail
       refine(sum_any _ _ (by show(aJ e.tree).toArray.size≤_;simp[maxLen];omega)).mono ?_
       rintro e2 w6 ⟨rfl,hk6⟩
       have HB1:=Lib.hid (ZW.out.keeps hk6)
       have hsl:=Ba (aJ e.tree)
       clear hk6 ZW q0
       go_wp2_with fail
       refine(Jv HB1.out [jf,(sumOf (aJ e.tree)).data.toList] 2 _ _ rfl ?c3 rfl (by omega) (by omega) (by simp only[roomOf,List.map_cons,List.sum_cons,List.map_nil,List.sum_nil];rw[hsl];decide)).mono ?_
       case c3=>rfl
       rintro e2 w7 ⟨rfl,hq⟩
       have HB2:=Lib.hid hq
       clear hq HB1
       go_wp2_with fail
       refine(wI _ HB2.out).mono ?_
       rintro e2 w8 ⟨rfl,hq⟩
       have HB3:=Lib.hid hq
       clear hq HB2
       go_wp2_with fail
       go_roundg (l.length-(k+1))
       case measure=>omega
       case rel=>exact⟨k+1,rfl,by omega,by go_num,HB3⟩
   ·have hk2:l.length=k:=by omega
    subst hk2
    have ZW:Hid (sG w1 bb T (aC [iY]++[]) wr):=by
     have h1:=HB.out
     rw[Iq] at h1
     have h2:aC [iY]++[]=bM iY:=by simp[aC]
     rw[h2]
     exact h1
    have adO:T≠[]:=by
     rw[←HTQ.out]
     intro h0
     have h1:=congrArg List.length h0
     have h2:=gZ dK
     simp only[Gq,List.length_append,List.length_nil] at h1
     omega
    have Q5:=Lib.hid adO
    clear HB adO
    go_wp2_with fail
    refine(Jv ZW.out [iY] 1 _ _ rfl ?c4 rfl (by omega) (by omega) (by simp[roomOf])).mono ?_
    case c4=>rfl
    rintro e2 w7 ⟨rfl,hq⟩
    have HB2:=Lib.hid hq
    clear hq ZW
    go_wp2_with fail
    refine(wI _ HB2.out).mono ?_
    rintro e2 w8 ⟨rfl,hq⟩
    have HB3:=Lib.hid hq
    clear hq HB2
    go_wp2_with fail
    refine(SK HB3.out Q5.out).mono ?_
    rintro e2 w9 ⟨rfl,hk9⟩
    have HP:Hid (Dc w L roots (.returned (.tuple #[.string ⟨T.toArray⟩,.int .i64 0])) w9):=⟨0,T,.inr ⟨KD.out,K,HK.out,rfl,by rw[HLQ.out];exact HTQ.out.symm⟩,rfl,iy.out.tn hk9⟩
    clear hk9 HB3
    go_wp2_with fail
    refine bodyPost_ret (v:=.tuple #[.string ⟨T.toArray⟩,.int .i64 0]) (by simp[results,Tryz.results19,go_sem]) rfl ?_
    exact HP.out
theorem MS{G:Nat→Prop}{r:Nat}{L:aH}(w:World)(h:CO w G r L)(hok:bK L)(hfl:∀e∈L,mM e)(roots:List (List UInt8))(vr:Value)(hr:Rd w 1 vr roots.length (bf roots))(hrl:roots.length≤1099511627776)
 (E:Int) (T:List UInt8) (hx:Pj L roots E T):
 Calls Tryz.prog 68 #[pv r,vr] w fun ed w'=>ed=.returned (.tuple #[.string ⟨T.toArray⟩,.int .i64 E])∧Keeps Non w w':=by
 obtain⟨ra,rc,rfl,-,hrc⟩:=hr.shape
 unfold maxLen at hrc
 have CU:=Lib.hid (zq w h hok hfl roots _ hr hrl)
 obtain⟨vq,TT,g1,g2⟩:=h.mem
 obtain⟨qa,qc,rfl,hq1,hq2⟩:=g2.sl.shape
 have Cc:=Lib.hid g2
 have OA:=Lib.hid g1
 have yM:Hid (TT.length=L.length):=g2.len
 have aaB:TT.length≤10:=by have:=g2.len;have:=hok.ten;omega
 have vg:=Lib.hid hok
 have Rq:=Lib.hid hfl
 have HX:=Lib.hid hx
 unfold maxLen at hq2
 clear h hr hok hfl hx g1 g2
 unfold pv at *
 go_enter Tryz.func68,Tryz.ntmps68
 go_wp2_with fail
 refine CU.out.mono ?_
 clear CU
 intro ed w1 hq
 rcases HX.out with⟨⟨y,hy,hyn⟩,rfl,rfl⟩|⟨hall,K,hK,rfl,hT⟩
 ·obtain⟨rfl,hk⟩:ed=.returned (.tuple #[.slice none 0 0,.int .i64 15])∧Keeps Non w w1:=by
   rcases hq with⟨-,rfl,hk⟩|⟨hall,-⟩
   ·exact⟨rfl,hk⟩
   ·have:=hall y hy
    rw[hyn] at this
    cases this
  have iy:=Lib.hid hk
  clear hq hk hy hyn HX
  go_wp2_with fail
  refine bodyPost_ret (v:=.tuple #[.string ⟨#[]⟩,.int .i64 15]) (by simp[results,Tryz.results68,go_sem]) rfl ?_
  exact⟨rfl,iy.out⟩
 ·obtain⟨v,rfl,hs1,hk1⟩:∃v,ed=.returned (.tuple #[v,.int .i64 0])∧Sl w1 w.heap.size 9 1 v (jO L K).length (bf (jO L K))∧Keeps Non w w1:=by
   rcases hq with⟨⟨y,hy,hyn⟩,-⟩|⟨-,hq⟩
   ·have:=hall y hy
    rw[hyn] at this
    cases this
   ·exact hq K hK
  have Jg:=E5 vg.out K
  have HT:=Lib.hid (uz L K)
  have hlen:=Ju vg.out Jg
  rw[←hT] at hlen
  have HLEN:=Lib.hid hlen
  have iy:=Lib.hid hk1
  obtain⟨l,hl⟩:∃l,jO L K=l:=⟨_,rfl⟩
  rw[hl] at hs1 Jg HT hT
  have HTQ:Hid (T=bM dK++kU L l 0):=by rw[←EY];exact hT
  obtain⟨la,lc,rfl,hl1,hl2⟩:=hs1.shape
  unfold maxLen at hl2
  have HSL:=Lib.hid hs1.rd
  clear hq hall hK hk1 hl hs1 hT HX hlen
  go_wp2_with fail
  refine(qH dK _ (by decide)).mono ?_
  rintro e w2 ⟨rfl,hk2⟩
  have iP:Hid (Keeps Non w w2):=iy.out.tn hk2
  have WE:=Lib.hid hk2
  clear hk2
  go_wp2_with fail
  go_loopg [8,27] l.length (fun gk ov iv wr=>∃(k:Nat) (out:List UInt8),gk=l.length-k∧k≤l.length∧iv=.int .i64 k∧ov=.string ⟨out.toArray⟩∧Hid (out++kU L l k=T)∧Hid (Keeps Non w1 wr))
  case atStart=>exact⟨0,bM dK,rfl,Nat.zero_le _,rfl,rfl,HTQ.out.symm,WE⟩
  case round=>
   clear WE iP
   obtain⟨k,out,rfl,hk,rfl,rfl,HO,HK⟩:=hrel
   have pO:Hid (Keeps Non w wr):=iy.out.tn HK.out
   have hol:out.length≤320000:=by have h1:=HLEN.out;rw[←HO.out,List.length_append] at h1;omega
   by_cases hlt:k<l.length
   ·obtain⟨p,hp⟩:∃p,l[k]? =some p:=⟨_,List.getElem?_eq_getElem hlt⟩
    obtain⟨e,hel,hfe,oz⟩:=Iw HT.out hp
    subst oz
    obtain⟨b',o',cc,hsh,-,-,-,kZ,hcc,-⟩:=(HSL.out.non HK.out).pos (by omega)
    cases hsh
    have c0:wr.cell? ⟨b',o'+k,none⟩=some (.string ⟨e.path.toArray⟩):=(hcc k (by omega)).trans (by rw[dJ _ _ hlt];have:=(List.getElem?_eq_some_iff.1 hp).2;rw[this];rfl)
    have ahR:=vg.out.C9 (p:=e.path) (by rw[hfe];rfl)
    obtain⟨h31,h32⟩:=vg.out.Jt hel
    have hgood:=vg.out.good e hel
    have hpk:=(nI hgood.2.1).2.2
    have abg:=Lib.hid h32
    have Ad:Hid (out++((aC [cO,e.path]++aJ e.tree++aC [fQ])++(kR e 0++kU L l (k+1)))=T):=by
     have h1:=HO.out
     rw[EX hp hfe,Ir,List.append_assoc] at h1
     exact h1
    rcases lN L e.path with⟨hf,-⟩|⟨i,e',hLi,hel',hep',hi,hil,-⟩
    ·rw[hfe] at hf;cases hf
    have:=vg.out.uniq hel' hel hep'
    subst this
    have hQ:=Cc.out.non pO.out
    have hiT:i<TT.length:=by rw[yM.out];exact hil
    obtain⟨x,hx⟩:∃x,TT[i]? =some x:=⟨_,List.getElem?_eq_getElem hiT⟩
    have hX:=hQ.ents i e' x hLi hx
    obtain⟨b,off,cp,hsh,-,-,-,hbl,Y8,-⟩:=hQ.rd.pos (by omega)
    cases hsh
    obtain⟨t1,t2,t3⟩:=o9 TT i x hx
    have c1:=(Y8 (i*3) (by omega)).trans t1
    have c2:=(Y8 (i*3+1) (by omega)).trans t2
    have c3:=(Y8 (i*3+2) (by omega)).trans t3
    obtain⟨x0,x1,x2⟩:=x
    have hp0:=hX.path
    simp only at c1 c2 c3 hp0
    subst hp0
    obtain⟨xa1,BH,hx1,-,ahV⟩:=hX.tree.shape
    obtain⟨yO,yP,hx2,-,ahW⟩:=hX.refs.shape
    simp only at hx1 hx2
    subst hx1 hx2
    unfold maxLen at ahV ahW
    rw[←Nat.add_assoc] at c2 c3
    unfold sv at c1
    have hr0:=OA.out.keeps pO.out fun h=>h
    have iD:Hid (∀wx,Keeps Non wr wx→wx.cell? ⟨r,0,none⟩=some (.slice (some ⟨b,off,none⟩) TT.length qc)∧wx.cell? ⟨b,off+i*3,none⟩=some (.string ⟨e'.path.toArray⟩)∧wx.cell? ⟨b,off+i*3+1,none⟩=some (.slice xa1 e'.tree.length BH)∧wx.cell? ⟨b,off+i*3+2,none⟩=some (.slice yO e'.refs.length yP)):=fun wx hk=>by
     have h1:=(hr0.keeps hk fun h=>h).cell 0
     simp only[List.getElem?_toArray,List.getElem?_cons_zero] at h1
     refine⟨h1,?_,?_,?_⟩
     ·rw[World.cell?,hk.block b hbl fun h=>h]
      exact c1
     ·rw[World.cell?,hk.block b hbl fun h=>h]
      exact c2
     ·rw[World.cell?,hk.block b hbl fun h=>h]
      exact c3
    have HAT:Hid (∀wx,Keeps Non wr wx→Calls Tryz.prog 98 #[.slice (some ⟨b,off,none⟩) TT.length qc,.string ⟨e'.path.toArray⟩] wx fun ed w'=>ed=.returned (.int .i64 (i:Int))∧Keeps Non wx w'):=fun wx hk=>by
     have h1:=(hQ.non hk).at ⟨e'.path.toArray⟩
     have h2:sS (L.map dI.path) (⟨e'.path.toArray⟩:ByteArray).data.toList=(i:Int):=hi
     rw[h2] at h1
     exact h1
    have HXR:=Lib.hid hX
    have HFR:=Lib.hid (Rq.out e' hel)
    obtain⟨q0,q1,q2,q3⟩:=iD.out wr (Keeps.refl _ _)
    have p1:(0:Int)≤(i:Int):=by omega
    have p2:(i:Int)<(TT.length:Int):=by omega
    have Vd:=Lib.hid hgood
    clear hQ hX hcc Y8 t1 t2 t3 c1 c2 c3 hr0 hx hLi hel' hep' hi hfe hel hp h32 HO hgood
    go_upto_region 8 with(fail)
    have hc:Keeps Non wr wr:=Keeps.refl _ _
    go_cut [11] (fun v wx=>∃xb,v=.pointer (some ⟨xb,0,none⟩)∧Hid (aS wx xb #[.string ⟨e'.path.toArray⟩,.slice xa1 e'.tree.length BH,.slice yO e'.refs.length yP] FT)∧Hid (Keeps Non wr wx))
    case first=>
     go_region_held3 (fun w'=>w'.cell? ⟨r,0,none⟩=some (.slice (some ⟨b,off,none⟩) TT.length qc)∧w'.cell? ⟨b,off+i*3,none⟩=some (.string ⟨e'.path.toArray⟩)∧w'.cell? ⟨b,off+i*3+1,none⟩=some (.slice xa1 e'.tree.length BH)∧w'.cell? ⟨b,off+i*3+2,none⟩=some (.slice yO e'.refs.length yP)) (with_reducible first|exact⟨q0,q1,q2,q3⟩|exact iD.out _ hc|exact iD.out _ hc.drew|exact iD.out _ (hc.alloc _)|exact iD.out _ (hc.alloc _).drew|exact iD.out _ ((((hc.alloc _).setCell _ _ (.inr hc.size)).setCell _ _ (.inr hc.size)).setCell _ _ (.inr hc.size))|exact iD.out _ (((hc.setCell _ _ (.inr (Nat.le_refl _))).setCell _ _ (.inr (Nat.le_refl _))).setCell _ _ (.inr (Nat.le_refl _)))) (first
      |(go_at_call 98
        with_reducible refine(HAT.out _ hc.drew).mono ?_
        clear HAT
        rintro ed w' ⟨rfl,hk⟩
        replace hc:Keeps Non wr w':=Keeps.tn hc.drew hk
        clear hk
        obtain⟨q0,q1,q2,q3⟩:=iD.out _ hc)
      |(go_at_call 98
        with_reducible refine(HAT.out _ (hc.alloc _).drew).mono ?_
        clear HAT
        rintro ed w' ⟨rfl,hk⟩
        have hbx:=(aS.new wr #[.string ⟨#[]⟩,.slice none 0 0,.slice none 0 0] FT).keeps ((Keeps.refl Non _).drew.tn hk) (fun h=>h)
        have b0:=hbx.cell 0
        have b1:=hbx.cell 1
        have b2:=hbx.cell 2
        have b3:=hbx.free 0
        have b4:=hbx.free 1
        have b5:=hbx.free 2
        simp only[List.getElem?_toArray,List.getElem?_cons_zero,List.getElem?_cons_succ] at b0 b1 b2
        replace hc:Keeps Non wr w':=Keeps.tn (hc.alloc _).drew hk
        clear hk
        obtain⟨q0,q1,q2,q3⟩:=iD.out _ hc))
     all_goals (
      go_wp2_with fail
      go_meet
      first
       |exact⟨_,rfl,aS.new _ _ _,hc.alloc _⟩
       |exact⟨_,rfl,(by show aS _ _ _ _;simpa using ((hbx.set 0 (.string ⟨e'.path.toArray⟩)).set 1 (.slice xa1 e'.tree.length BH)).set 2 (.slice yO e'.refs.length yP)),((hc.setCell _ _ (.inr (Nat.le_refl _))).setCell _ _ (.inr (Nat.le_refl _))).setCell _ _ (.inr (Nat.le_refl _))⟩)
    case rest=>
     obtain⟨xb,hsh,HXB,HC5⟩:=hcut
     subst hsh
     generalize wc=w5 at *
     have ng:Hid (Keeps Non w1 w5):=HK.out.tn HC5.out
     have ahX:Hid (Keeps Non w w5):=pO.out.tn HC5.out
     have SL:w5.cell? ⟨xb,1,none⟩=some (.slice xa1 e'.tree.length BH):=HXB.out.cell 1
     have vF:=Lib.hid (sO _ e'.tree w5 (HXR.out.tree.non HC5.out) HFR.out.nodes Vd.out.2.1 HFR.out.pack)
     clear q0 q1 q2 q3 hc HAT iD p1 p2
     go_wp2_with fail
     refine vF.out.mono ?_
     rintro ed w6 ⟨rfl,hk6⟩
     have yU:=Lib.hid (ng.out.tn hk6)
     have HX6:=Lib.hid (HXB.out.keeps hk6 fun h=>h)
     have HN6:=Lib.hid (HC5.out.tn hk6)
     have hla:(aC [cO,e'.path]).length≤100:=Nat.le_trans (dL _) (by simp[roomOf];omega)
     have hlc:(bM fQ).length≤100:=by rw[gZ];have:=lK fQ.length;simp only[List.length_cons,List.length_nil] at this ⊢;omega
     clear hk6 vF SL HXB HC5 ng ahX
     go_wp2_with fail
     refine(mZ _ [cO,e'.path] _ ?d1 ?d2 ?d3).mono ?_
     case d1=>exact aP w6 2 _ [cO,e'.path] _ rfl rfl rfl (by simp)
     case d2=>simp
     case d3=>simp[roomOf];omega
     rintro ed w7 ⟨rfl,xg⟩
     have OC:=Lib.hid ((yU.out.alloc _).tn xg)
     have HX7:=Lib.hid ((HX6.out.alloc _).keeps xg fun h=>h)
     have HN7:=Lib.hid ((HN6.out.alloc _).tn xg)
     clear xg yU HX6 HN6
     go_wp2_with fail
     refine(qH fQ _ (by decide)).mono ?_
     rintro ed w8 ⟨rfl,hk8⟩
     have Ce:=Lib.hid (OC.out.tn hk8)
     have HX8:=Lib.hid (HX7.out.keeps hk8 fun h=>h)
     have HN8:=Lib.hid (HN7.out.tn hk8)
     have SN:w8.cell? ⟨xb,2,none⟩=some (.slice yO e'.refs.length yP):=HX8.out.cell 2
     clear hk8 OC HX7 HN7
     go_wp2_with fail
     go_loopg [8,58] e'.refs.length (fun gj ov jv wq=>∃(j:Nat) (MV:List UInt8),gj=e'.refs.length-j∧j≤e'.refs.length∧jv=.int .i64 j∧ov=.string ⟨MV.toArray⟩∧Hid (MV++(kR e' j++kU L l (k+1))=T)∧Hid (Keeps Non w8 wq))
     case atStart=>
      refine⟨0,out++((aC [cO,e'.path]++aJ e'.tree)++bM fQ),rfl,Nat.zero_le _,rfl,?_,?_,Keeps.refl _ _⟩
      ·rw[dW,dW,dW]
      ·show _=T
       rw[←Ad.out]
       simp[aC]
     case round=>
      clear SN
      obtain⟨j,MV,rfl,hj,rfl,rfl,HO2,HQ⟩:=hrel
      have ho2:MV.length≤320000:=by have h1:=HLEN.out;rw[←HO2.out,List.length_append] at h1;omega
      by_cases hjl:j<e'.refs.length
      ·obtain⟨y,hy⟩:∃y,e'.refs[j]? =some y:=⟨_,List.getElem?_eq_getElem hjl⟩
       have ahU:=abg.out y (List.mem_of_getElem? hy)
       obtain⟨b2,o2,BG,hsh,-,-,-,Lj,hcc,-⟩:=(HXR.out.refs.non (HN8.out.tn HQ.out)).pos (by omega)
       cases hsh
       have c1:wr.cell? ⟨b2,o2+j,none⟩=some (.string ⟨y.toArray⟩):=(hcc j (by omega)).trans (by rw[dJ _ _ hjl];have:=(List.getElem?_eq_some_iff.1 hy).2;rw[this];rfl)
       have HOY:Hid (MV++(aC [iO,y]++(kR e' (j+1)++kU L l (k+1)))=T):=by
        have h1:=HO2.out
        rw[BP hy,List.append_assoc] at h1
        exact h1
       have hly:(aC [iO,y]).length≤100:=Nat.le_trans (dL _) (by simp[roomOf];omega)
       clear hcc hy HO2
       go_wp2_with fail
       refine(mZ _ [iO,y] _ ?d4 ?d5 ?d6).mono ?_
       case d4=>exact aP wr 2 _ [iO,y] _ rfl rfl rfl (by simp)
       case d5=>simp
       case d6=>simp[roomOf];omega
       rintro ed w9 ⟨rfl,hk9⟩
       have HQ9:=Lib.hid ((HQ.out.alloc _).tn hk9)
       clear hk9 HQ c1
       go_wp2_with fail
       go_roundg (e'.refs.length-(j+1))
       case measure=>omega
       case rel=>exact⟨j+1,MV++aC [iO,y],rfl,by omega,by go_num,by rw[dW],(by show _=T;rw[←HOY.out];simp),HQ9⟩
      ·have hj2:e'.refs.length=j:=by omega
       subst hj2
       have HOY:Hid (MV++(aC [jf,(sumOf (aJ e'.tree)).data.toList]++kU L l (k+1))=T):=by
        have h1:=HO2.out
        rw[EZ] at h1
        exact h1
       have hsl:=Ba (aJ e'.tree)
       have hly:(aC [jf,(sumOf (aJ e'.tree)).data.toList]).length≤100:=Nat.le_trans (dL _) (by simp only[roomOf,List.map_cons,List.sum_cons,List.map_nil,List.sum_nil];rw[hsl];decide)
       clear HO2
       go_wp2_with fail
       refine(DK _ _ (by show(aJ e'.tree).toArray.size≤_;simp[maxLen];omega)).mono ?_
       rintro ed w9 ⟨rfl,hk9⟩
       have HQ9:=Lib.hid (HQ.out.tn hk9)
       clear hk9 HQ
       go_wp2_with fail
       refine(mZ _ [jf,(sumOf (aJ e'.tree)).data.toList] _ ?d7 ?d8 ?d9).mono ?_
       case d7=>exact aP w9 2 _ [jf,(sumOf (aJ e'.tree)).data.toList] _ rfl rfl rfl (by simp)
       case d8=>simp
       case d9=>simp only[roomOf,List.map_cons,List.sum_cons,List.map_nil,List.sum_nil];rw[hsl];decide
       rintro ed w10 ⟨rfl,hk10⟩
       have ahY:Hid (Keeps Non w1 w10):=Ce.out.tn ((HQ9.out.alloc _).tn hk10)
       clear hk10 HQ9
       go_wp2_with fail
       go_roundg (l.length-(k+1))
       case measure=>omega
       case rel=>exact⟨k+1,MV++aC [jf,(sumOf (aJ e'.tree)).data.toList],rfl,by omega,by go_num,by rw[dW],(by show _=T;rw[←HOY.out];simp),ahY⟩
   ·have hk2:l.length=k:=by omega
    subst hk2
    have HOY:Hid (out++bM iY=T):=by
     have h1:=HO.out
     rw[Iq] at h1
     exact h1
    have hlc:(bM iY).length≤100:=by rw[gZ];have:=lK iY.length;simp only[List.length_cons,List.length_nil] at this ⊢;omega
    clear HO
    go_wp2_with fail
    refine(qH iY _ (by decide)).mono ?_
    rintro ed w8 ⟨rfl,hk8⟩
    have Ce:=Lib.hid (pO.out.tn hk8)
    clear hk8
    go_wp2_with fail
    refine bodyPost_ret (v:=.tuple #[.string (⟨out.toArray⟩++⟨(bM iY).toArray⟩),.int .i64 0]) (by simp[results,Tryz.results68,go_sem]) rfl ?_
    refine⟨?_,Ce.out⟩
    rw[dW,HOY.out]
def MW(w:World)(b:Nat)(may:List (List UInt8))(act:vw)(ed:Ending)(w':World):Prop:=∃f,ed=.returned (.agg #[.int .i64 8,f])∧dD w' b (.word may act) f∧Keeps Non w w'
def SQ(w:World)(b:Nat)(may:List (List UInt8))(act:vw)(v:Value)(ed:Ending)(w':World):Prop:=∃f,ed=.returned (.agg #[.int .i64 8,f])∧dD w' b (.word may act) f∧Keeps Non w w'∧
 ∃bm bp bt:Nat,f=.func (.func 77) #[] #[.pointer (some ⟨bm,0,none⟩),.pointer (some ⟨bp,0,none⟩),.pointer (some ⟨bt,0,none⟩)]∧aS w' bm #[v] 26
theorem Bc(b:Nat)(may:List (List UInt8))(act:vw)(v:Value)(w:World)(hv:Sl w 0 9 1 v may.length (bf may)):
 Calls Tryz.prog 46 #[.pointer (some ⟨b,0,none⟩),Jq b act,v] w (SQ w b may act v):=by
 obtain⟨a0,c0,rfl,-,-⟩:=hv.shape
 have HV:=Lib.hid hv
 clear hv
 have haf:Jq b act=.nilFunc∨∃fn x y,Jq b act=.func fn x y:=by cases act <;> first|exact .inl rfl|exact .inr ⟨_,_,_,rfl⟩
 have HK:Hid (∀af:Value,Keeps Non w (((w.alloc (.cells #[.pointer (some ⟨b,0,none⟩)] 151)).alloc (.cells #[af] 111)).alloc (.cells #[.slice a0 may.length c0] 26))):=fun af=>(((Keeps.refl _ _).alloc _).alloc _).alloc _
 generalize hA:Jq b act=af at *
 have HA:=Lib.hid hA
 clear hA
 rcases haf with rfl|⟨fn,x,y,rfl⟩
 all_goals (
  go_enter Tryz.func46,Tryz.ntmps46
  go_wp2_with fail
  refine bodyPost_ret (v:=.agg #[.int .i64 8,.func (.func 77) #[] #[.pointer (some ⟨w.heap.size+1+1,0,none⟩),.pointer (some ⟨w.heap.size,0,none⟩),.pointer (some ⟨w.heap.size+1,0,none⟩)]]) (by simp[results,Tryz.results46,go_sem]) rfl ?_
  refine⟨_,rfl,⟨_,_,_,.slice a0 may.length c0,rfl,?_,(((HV.out.alloc _).alloc _).alloc _).alloc _,(((aS.new w _ _).alloc _).alloc _).alloc _,?_⟩,(HK.out _).alloc _,_,_,_,rfl,?_⟩
  ·have h1:=fun(o1 o2 o3:Obj)=>(aS.new ((w.alloc o1).alloc o2) #[.slice a0 may.length c0] 26).alloc o3
   simp only[World.size_alloc] at h1
   exact h1 _ _ _
  ·rw[HA.out]
   have h1:=fun(o1 o2 o3:Obj) (a:Value)=>((aS.new (w.alloc o1) #[a] 111).alloc o2).alloc o3
   simp only[World.size_alloc] at h1
   exact h1 _ _ _ _
  ·have h1:=fun(o1 o2 o3:Obj)=>(aS.new ((w.alloc o1).alloc o2) #[.slice a0 may.length c0] 26).alloc o3
   simp only[World.size_alloc] at h1
   exact h1 _ _ _)
theorem fH(b:Nat)(may:List (List UInt8))(act:vw)(v:Value)(w:World)(hv:Sl w 0 9 1 v may.length (bf may)):
 Calls Tryz.prog 46 #[.pointer (some ⟨b,0,none⟩),Jq b act,v] w (MW w b may act):=
 (Bc b may act v w hv).mono fun _ _ ⟨f,h1,h2,h3,_⟩=>⟨f,h1,h2,h3⟩
theorem tY(b most:Nat)(f:Value)(hf:f.oneCell'=true)(hff:∃fn x y,f=.func fn x y)(w:World):
 Calls Tryz.prog 79 #[.pointer (some ⟨b,0,none⟩),.int .i64 most,f] w fun ed w'=>ed=.returned (.agg #[.int .i64 most,f])∧Keeps Non w w':=by
 obtain⟨fn,x,y,rfl⟩:=hff
 go_enter Tryz.func79,Tryz.ntmps79
 go_wp2_with fail
 refine bodyPost_ret (v:=.agg #[.int .i64 most,.func fn x y]) (by simp[results,Tryz.results79,go_sem]) rfl ⟨rfl,(Keeps.refl _ _).alloc _⟩
theorem dD.keeps{w w':World}{b:Nat}{j:Job}{f:Value}(h:dD w b j f)(k:Keeps Non w w'):dD w' b j f:=h.kp (Kp.aI (B:=0) (Ts:=[]) k) (by simp)
theorem dD.alloc{w:World}{b:Nat}{j:Job}{f:Value}(h:dD w b j f)(o:Obj):dD (w.alloc o) b j f:=h.keeps ((Keeps.refl _ _).alloc o)
theorem zI{w:World}(us:List (Job×Value))(n sz:Nat)(c:Array Value)(hsz:sz=w.heap.size)(hc:c=(aW us).toArray)(hn:us.length=n)(h9:n≤100):Sl (w.alloc (.cells c 113)) 0 113 2 (.slice (some ⟨sz,0,none⟩) n n) us.length (aW us):=by
 subst hn hc hsz
 exact Sl.dM w 0 (Nat.zero_le _) 113 2 us.length (aW us) (oU us) (by unfold maxLen;omega)
theorem lZ{B b:Nat}{tail:PT}{ts:List (Job×Value)}{σ:aT}{w:World}(h:PA B b tail ts σ w)(us:List (Job×Value))(n sz:Nat)(c:Array Value)(hsz:sz=w.heap.size)(hc:c=(aW us).toArray)(hn:us.length=n)(h9:n≤100)(hj:∀t∈us,dD w b t.1 t.2)(hl:ts.length≤1099511627000):
 Calls Tryz.prog 45 #[.pointer (some ⟨b,0,none⟩),.slice (some ⟨sz,0,none⟩) n n] (w.alloc (.cells c 113)) fun ed w'=>ed=.returned (.tuple #[])∧PA B b tail (ts++us.reverse) σ w'∧Kp B [113,TB] w w':=by
 obtain⟨vr,vt,vl,va,h⟩:=h
 have ha:=zI (w:=w) us n sz c hsz hc hn h9
 subst hn
 have hne:vt.ownBlock≠some sz:=by
  intro e
  have:=h.todo.pR e
  omega
 refine(ES (h.alloc _) us sz 0 us.length ha hne (fun t ht=>(hj t ht).alloc _) (by omega)).mono ?_
 rintro ed w' ⟨h1,h2,h3⟩
 exact⟨h1,h2,((Kp.refl _ _ _).alloc _).trans h3⟩
def ru(f1 f2 f3:Value):List (Job×Value):=[(.word [gI] .open',f1),(.word [nD] .none,f2),(.word [fA,fB,jm] .kind,f3)]
def WG(w:World)(b:Nat)(ed:Ending)(w':World):Prop:=∃(f1 f2 f3:Value) (bl:Nat),ed=.returned (.slice (some ⟨bl,0,none⟩) 3 3)∧Sl w' 0 113 2 (.slice (some ⟨bl,0,none⟩) 3 3) 3 (aW (ru f1 f2 f3))∧w.heap.size≤bl∧(∀t∈ru f1 f2 f3,dD w' b t.1 t.2)∧Keeps Non w w'
theorem MX(b:Nat)(w:World):Calls Tryz.prog 131 #[.pointer (some ⟨b,0,none⟩)] w (WG w b):=by
 go_enter Tryz.func131,Tryz.ntmps131
 go_wp2_with fail
 refine(fH b [gI] .open' _ _ (aP w 1 _ [gI] _ rfl rfl rfl (by simp))).mono ?_
 rintro e w1 ⟨f1,rfl,hj1,hk1⟩
 have K1:Hid (Keeps Non w w1):=((Keeps.refl _ _).alloc _).trans hk1 (fun k hk=>.inl hk)
 have J1:=Lib.hid hj1
 clear hj1 hk1
 go_wp2_with fail
 refine(fH b [nD] .none _ _ (aP w1 1 _ [nD] _ rfl rfl rfl (by simp))).mono ?_
 rintro e w2 ⟨f2,rfl,hj2,hk2⟩
 have hk12:Keeps Non w1 w2:=((Keeps.refl _ _).alloc _).trans hk2 (fun k hk=>.inl hk)
 have K2:Hid (Keeps Non w w2):=K1.out.trans hk12 (fun k hk=>.inl hk)
 have WH:=Lib.hid (J1.out.keeps hk12)
 have J2:=Lib.hid hj2
 clear hj2 hk2 hk12
 go_wp2_with fail
 refine(fH b [fA,fB,jm] .kind _ _ (aP w2 3 _ [fA,fB,jm] _ rfl rfl rfl (by simp))).mono ?_
 rintro e w3 ⟨f3,rfl,hj3,hk3⟩
 have nY:Keeps Non w2 w3:=((Keeps.refl _ _).alloc _).trans hk3 (fun k hk=>.inl hk)
 have K3:Hid (Keeps Non w w3):=K2.out.trans nY (fun k hk=>.inl hk)
 have ZX:=Lib.hid (WH.out.keeps nY)
 have J23:=Lib.hid (J2.out.keeps nY)
 have J3:=Lib.hid hj3
 clear hj3 hk3 nY
 go_wp2_with fail
 go_ret
 refine⟨f1,f2,f3,_,rfl,zI (ru f1 f2 f3) 3 _ _ rfl rfl rfl (by omega),K3.out.size,?_,K3.out.alloc _⟩
 intro t ht
 simp only[ru,List.mem_cons,List.not_mem_nil,or_false] at ht
 rcases ht with rfl|rfl|rfl
 ·exact ZX.out.alloc _
 ·exact J23.out.alloc _
 ·exact J3.out.alloc _
end Go.Proofs.YtdkogijdfgfpeaaGreatDoor
