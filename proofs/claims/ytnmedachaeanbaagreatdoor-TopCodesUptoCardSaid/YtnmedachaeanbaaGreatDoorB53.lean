/- Merged texts. -/
import Derived.Test.YtnmedachaeanbaaGreatDoorB52
import Derived.Test.YtnmedachaeanbaaGreatDoorB34
import Derived.Test.YtnmedachaeanbaaGreatDoorCards
import Derived.Test.YtnmedachaeanbaaGreatDoorTie
import Derived.ProofKit
import Derived.Deep.Slices
import Derived.JoinedCond
import Derived.OpenShut
import Derived.Deep.DeepHandedRow
import Derived.Lib.LaidTab
namespace Go.Proofs.YtnmedachaeanbaaGreatDoor
set_option maxRecDepth 100000
set_option maxHeartbeats 25600000
open Go.RowKit
open Go.Lib (hid Utf8Tabs)
set_option linter.unusedVariables false
theorem lives_any (w:World):Calls Tryz.prog 8 #[] w fun e w'=>e=.returned (.bool true)∧Below w.heap.size w w':=
 (Go.Sy.Run.lives_any w).mono fun _ _ ⟨h1,h2⟩=>⟨h1,h2.os,h2.tape,h2.output,h2.size,h2.block⟩
set_option linter.unusedSimpArgs false
theorem Z9t (A0 A1 A2 A3:Option Addr) (n0 n1 n2 n3 c0 c1 c2 c3:Nat) (l0:List Ky) (b:List Int) (l2:List OpS) (d:List ClS) (w:World)
 (e0:n0=l0.length) (r0:RdKy w w.heap.size A0 l0) (b0:n0≤1048576) (e1:n1=b.length) (r1:RdU8 w w.heap.size A1 b) (b1:n1≤1048576) (k1:n1≤c1) (u1:U8 b)
 (e2:n2=l2.length) (r2:RdOp w w.heap.size A2 l2) (b2:n2≤1048576) (k2:n2≤c2) (m2:c2≤maxLen) (q2:∀ o∈l2,okOp o.o) (z2:szX l2≤2305850000000000000) (f2:∀ o∈l2,capO o)
 (e3:n3=d.length) (r3:RdCl w w.heap.size A3 d) (b3:n3≤1048576) (k3:n3≤c3) (q3:∀ x∈d,x.c.s.length≤100000000∧okVr x.c.s) (g3:∀ x∈d,x.c.s.length≤x.cs∧x.cs≤maxLen)
 (hT:Utf8Tabs 0 1 w) :
 Calls Tryz.prog 5 #[.slice A0 n0 c0,.slice A1 n1 c1,.slice A2 n2 c2,.slice A3 n3 c3] w fun e w'=>e=.returned (.bool true)∧Below w.heap.size w w':=by
 have N0:=hid e0
 have R0:=hid r0
 have N1:=hid e1
 have RB:=hid r1
 have U1:=hid u1
 have N2:=hid e2
 have R2:=hid r2
 have Q2:=hid q2
 have Z2:=hid z2
 have F2:=hid f2
 have N3:=hid e3
 have R3:=hid r3
 have Q3:=hid q3
 have C3:=hid g3
 have HT:=hid hT
 have hx:=Below.refl w.heap.size w
 clear e0 r0 e1 r1 u1 e2 r2 q2 z2 f2 e3 r3 q3 g3 hT
 go_enter Tryz.func5,Tryz.ntmps5
 by_cases tb:(2000:Int)<(n1:Int)
 ·go_wp2_with (go_at_call 8;refine Hid.out ?_)
  refine hid ?_
  refine (lives_any _).mono ?_
  rintro e w2 ⟨rfl,y⟩
  replace hx:=Z0a hx y
  go_wp2_with (fail)
  go_ret
  exact ⟨rfl,hx⟩
 have ra:Rd SX.enc 1 _ _ _ [⟨A2,c2,l2⟩]:=Rd.new (enc:=SX.enc) (size:=1) (fun _=>rfl) w 37 [⟨A2,c2,l2⟩] (cs:=#[.slice A2 n2 c2]) (by simp [SX.enc,←N2.out]) rfl
 have y:=Z0b w (.cells #[.slice A2 n2 c2] 37)
 have R0:=hid (R0.out.ext y)
 have RB:=hid (RB.out.ext y)
 have R2:=hid (R2.out.ext y)
 have R3:=hid (R3.out.ext y)
 have HT:=hid (Utf8Tabs_below HT.out y)
 replace hx:=Z0a hx y
 clear y
 go_wp2_with (go_at_call 6;refine Hid.out ?_)
 refine hid ?_
 refine (Y2s A0 A3 (some ⟨w.heap.size,0,none⟩) n0 c0 n3 c3 1 1 d [⟨A2,c2,l2⟩] _ rfl ra (by omega) (by omega) (fun x hx=>by
  simp only [List.mem_cons,List.not_mem_nil,or_false] at hx
  subst hx
  exact ⟨R2.out,by have:=N2.out;simp only;omega⟩) (by have:=Z2.out;simp [sumX];omega) N3.out R3.out (by omega) (fun z hz=>by have:=(Q3.out z hz).1;omega)).mono ?_
 rintro e wn ⟨gb,rfl,h1,dr,hd⟩
 have y:=Y1g hd
 clear hd ra
 have R0:=hid (R0.out.ext y)
 have RB:=hid (RB.out.ext y)
 have R2:=hid (R2.out.ext y)
 have R3:=hid (R3.out.ext y)
 have HT:=hid (Utf8Tabs_below HT.out y)
 replace hx:=Z0a hx y
 clear y
 cases gb
 case false=>
  clear h1
  go_wp2_with (go_at_call 8;refine Hid.out ?_)
  refine hid ?_
  refine (lives_any _).mono ?_
  rintro e w2 ⟨rfl,y⟩
  replace hx:=Z0a hx y
  go_wp2_with (fail)
  go_ret
  exact ⟨rfl,hx⟩
 have h2:=h1 rfl
 have G0:=hid h2.1
 have G1:Hid (n3≤300∧∀ c∈d,c.c.s.length≤64):=hid ⟨h2.2.1,h2.2.2.1⟩
 have G3:Hid (szX l2≤4000):=hid (by simpa [sumX] using h2.2.2.2)
 have TB:Hid (n1≤2000):=hid (by omega)
 clear h1 h2
 go_wp2_with (go_at_call 9;refine Hid.out ?_)
 refine hid ?_
 refine (Y7j A0 n0 c0 l0 _ N0.out R0.out (by omega)).mono ?_
 rintro e wn ⟨y,⟨hm,s,rfl,hS⟩ | ⟨hm,rfl⟩⟩
 rotate_left
 ·skip
  have R0:=hid (R0.out.ext y)
  have RB:=hid (RB.out.ext y)
  have R2:=hid (R2.out.ext y)
  have R3:=hid (R3.out.ext y)
  have HT:=hid (Utf8Tabs_below HT.out y)
  replace hx:=Z0a hx y
  clear y hm
  go_wp2_with (go_at_call 8;refine Hid.out ?_)
  refine hid ?_
  refine (lives_any _).mono ?_
  rintro e w2 ⟨rfl,y⟩
  replace hx:=Z0a hx y
  go_wp2_with (fail)
  go_ret
  exact ⟨rfl,hx⟩
 have R0:=hid (R0.out.ext y)
 have RB:=hid (RB.out.ext y)
 have R2:=hid (R2.out.ext y)
 have R3:=hid (R3.out.ext y)
 have HT:=hid (Utf8Tabs_below HT.out y)
 replace hx:=Z0a hx y
 have KS:=hid (Y7q hm)
 have HS:=hid hS
 have H64:Hid (l0.length≤64):=hid (by rw [←N0.out];exact G0.out)
 have SN:Hid (szN l2≤4000):=hid (by have:=Y8x l2;have:=G3.out;omega)
 have NB2:Hid (n2≤4000):=hid (by have:=Y7D l2;have:=G3.out;have:=N2.out;omega)
 have O2:Hid (OpsC _ A2 n2 c2 l2):=hid ⟨⟨R2.out,N2.out,Q2.out,by have:=NB2.out;omega⟩,k2,m2,F2.out⟩
 have D3:Hid (DocAt _ A3 n3 c3 d):=hid ⟨R3.out,N3.out,k3,C3.out,fun z hz=>⟨by have:=G1.out.2 z hz;omega,(Q3.out z hz).2⟩,by have:=G1.out.1;omega⟩
 have SL2:Hid (∀ o∈l2,o.o.s.length≤1000000∧o.o.p.length≤1000000):=hid (fun o ho=>by have h1:=Y3Z ho;unfold szO at h1;have:=G3.out;omega)
 clear y hm hS tb R2 R3
 have KD:=hid (Z4T s l0 A1 n1 c1 b _ N1.out k1 RB.out U1.out (by have:=TB.out;omega) HS.out HT.out (fun X hX=>by have h1:=(Y1i U1.out hX).2;have:=N1.out;have:=TB.out;omega))
 go_wp2_with (go_at_call 22;refine Hid.out ?_)
 refine hid ?_
 refine KD.out.mono ?_
 clear KD
 rintro e wn ⟨y,⟨r,hr,rfl,_⟩ | ⟨A5,c5,X,rfl,oX,hX,mX,nX⟩⟩
 ·have hrb:(r==0)=false:=beq_eq_false_iff_ne.2 hr
  clear hr
  have R0:=hid (R0.out.ext y)
  have RB:=hid (RB.out.ext y)
  have O2:=hid (O2.out.ext y)
  have D3:=hid (D3.out.ext y)
  have HT:=hid (Utf8Tabs_below HT.out y)
  have HS:=hid (HS.out.ext y)
  replace hx:=Z0a hx y
  clear y
  obtain ⟨m,hm⟩:∃ V,mayO l0 l2=V:=⟨_,rfl⟩
  have HM:=hid hm
  clear hm
  have KE:=hid (Z2S s l0 A2 n2 c2 l2 _ O2.out.at_ HS.out HT.out KS.out (by have:=SN.out;omega) (fun h0 z hz=>((Y5Z KS.out h0 Q2.out SN.out).nf z hz).2.1))
  unfold EncO at KE
  by_cases m0:m=0
  rotate_left
  ·have m0b:(m != 0)=true:=by rw [bne,beq_eq_false_iff_ne.2 m0];rfl
   have m0c:(m==0)=false:=beq_eq_false_iff_ne.2 m0
   have mm:(m != m)=false:=by rw [bne,beq_self_eq_true];rfl
   have mm2:(m==m)=true:=beq_self_eq_true _
   have M0:=hid m0
   have MV:Hid (m=3∨m=4):=hid (by rcases Z7g l0 l2 with h|h|h<;>rw [HM.out] at h;exact absurd h m0;exact .inl h;exact .inr h)
   clear m0
   go_wp2_with (go_at_call 23;refine Hid.out ?_)
   refine hid ?_
   refine KE.out.mono ?_
   clear KE
   rintro e wn ⟨y,⟨hm,rfl⟩ | ⟨hm,_⟩⟩
   rotate_left
   ·exact absurd (HM.out.symm.trans hm) M0.out
   rw [HM.out]
   have R0:=hid (R0.out.ext y)
   have RB:=hid (RB.out.ext y)
   have O2:=hid (O2.out.ext y)
   have D3:=hid (D3.out.ext y)
   have HT:=hid (Utf8Tabs_below HT.out y)
   have HS:=hid (HS.out.ext y)
   replace hx:=Z0a hx y
   clear y hm
   go_wp2_with (go_at_call 25;refine Hid.out ?_)
   refine hid ?_
   refine (Z5D N0.out R0.out (by omega) O2.out.at_ (by have:=G3.out;omega) HT.out HM.out).mono ?_
   rintro e wn ⟨rfl,y⟩
   have R0:=hid (R0.out.ext y)
   have RB:=hid (RB.out.ext y)
   have O2:=hid (O2.out.ext y)
   have D3:=hid (D3.out.ext y)
   have HT:=hid (Utf8Tabs_below HT.out y)
   have HS:=hid (HS.out.ext y)
   replace hx:=Z0a hx y
   clear y
   rcases MV.out with h3|h3
   ·subst h3
    go_wp2_with (go_at_call 8;refine Hid.out ?_)
    refine hid ?_
    refine (lives_any _).mono ?_
    rintro e w2 ⟨rfl,y⟩
    replace hx:=Z0a hx y
    go_wp2_with (fail)
    go_ret
    exact ⟨rfl,hx⟩
   ·subst h3
    go_wp2_with (go_at_call 8;refine Hid.out ?_)
    refine hid ?_
    refine (lives_any _).mono ?_
    rintro e w2 ⟨rfl,y⟩
    replace hx:=Z0a hx y
    go_wp2_with (fail)
    go_ret
    exact ⟨rfl,hx⟩
  subst m0
  have CD:=hid (Y5Z KS.out HM.out Q2.out SN.out)
  obtain ⟨BB,hBB⟩:∃ V,wX (mkU (Z0i (osOf l2)))=V:=⟨_,rfl⟩
  have HB:=hid hBB
  rw [hBB] at KE CD
  obtain ⟨bl,hbl⟩:∃ V,BB.length=V:=⟨_,rfl⟩
  have BL:=hid hbl
  rw [hbl] at KE
  clear hBB hbl
  go_wp2_with (go_at_call 23;refine Hid.out ?_)
  refine hid ?_
  refine KE.out.mono ?_
  clear KE
  rintro e wn ⟨y,⟨hm,_⟩ | ⟨_,A7,c7,rfl,hc7,rd7,hl7⟩⟩
  ·exact absurd HM.out hm
  have R0:=hid (R0.out.ext y)
  have RB:=hid (RB.out.ext y)
  have O2:=hid (O2.out.ext y)
  have D3:=hid (D3.out.ext y)
  have HT:=hid (Utf8Tabs_below HT.out y)
  have HS:=hid (HS.out.ext y)
  replace hx:=Z0a hx y
  have R7:=hid rd7
  have K7:=hid hc7
  clear y rd7 hc7
  go_wp2_with (go_at_call 25;refine Hid.out ?_)
  refine hid ?_
  refine (Z5D N0.out R0.out (by omega) O2.out.at_ (by have:=G3.out;omega) HT.out HM.out).mono ?_
  rintro e wn ⟨rfl,y⟩
  have R0:=hid (R0.out.ext y)
  have RB:=hid (RB.out.ext y)
  have O2:=hid (O2.out.ext y)
  have D3:=hid (D3.out.ext y)
  have HT:=hid (Utf8Tabs_below HT.out y)
  have HS:=hid (HS.out.ext y)
  have R7:=hid (R7.out.ext y)
  replace hx:=Z0a hx y
  clear y
  have KD:=hid (Z4T s l0 A7 bl c7 BB _ BL.out.symm K7.out R7.out CD.out.u8 (by have:=CD.out.len;have:=BL.out;omega) HS.out HT.out (fun X hX=>by
   have h1:=CD.out.back
   rw [BL.out,hX] at h1
   injection h1 with h1
   injection h1 with h1 _
   have:=(CD.out.nf X h1).2.1
   omega))
  go_wp2_with (go_at_call 22;refine Hid.out ?_)
  refine hid ?_
  refine KD.out.mono ?_
  clear KD
  rintro e wn ⟨y,⟨r8,hr8,rfl,hno⟩ | ⟨A8,c8,Z,rfl,oZ,hZ,mZ,nZ⟩⟩
  ·have h1:=CD.out.back
   rw [BL.out,←Z2T (mkU (Z0i (osOf l2)))] at h1
   have h2:=CD.out.nf _ (Z2T _)
   exact absurd h2.2.2 (hno _ h1 h2.1)
  have R0:=hid (R0.out.ext y)
  have RB:=hid (RB.out.ext y)
  have O2:=hid (O2.out.ext y)
  have D3:=hid (D3.out.ext y)
  have HT:=hid (Utf8Tabs_below HT.out y)
  have HS:=hid (HS.out.ext y)
  have R7:=hid (R7.out.ext y)
  replace hx:=Z0a hx y
  have EZ:Hid (osOf Z=mkU (Z0i (osOf l2))):=hid (by
   have h1:=CD.out.back
   rw [BL.out,hZ] at h1
   injection h1 with h1
   injection h1 with h1 _)
  have OZ:=hid oZ
  clear y oZ hZ mZ nZ
  have g1:=(Z1s HM.out).1
  have IS:=hid (Z03 g1)
  have UL:Hid ((Z0i (osOf l2)).length≤4000000000):=hid (by have:=(Z2i (l:=l0) (x:=l2) (by rw [HM.out];decide) (by have:=Z2D l2;have:=SN.out;omega)).2.1;omega)
  clear g1
  go_wp2_with (go_at_call 26;refine Hid.out ?_)
  refine hid ?_
  refine (Z5E O2.out.at_ IS.out (by have:=SN.out;omega) SL2.out UL.out).mono ?_
  rintro e wn ⟨A9,c9,Q,rfl,h_1,o_1,y⟩
  have R0:=hid (R0.out.ext y)
  have RB:=hid (RB.out.ext y)
  have O2:=hid (O2.out.ext y)
  have D3:=hid (D3.out.ext y)
  have HT:=hid (Utf8Tabs_below HT.out y)
  have HS:=hid (HS.out.ext y)
  have R7:=hid (R7.out.ext y)
  have OZ:=hid (OZ.out.ext y)
  replace hx:=Z0a hx y
  have EQ:=hid h_1
  have OQ:=hid o_1
  clear y h_1 o_1
  have NQ:=hid (CD.out.nf Q EQ.out)
  have KQ:=hid (Z2S s l0 A9 Q.length c9 Q _ OQ.out.at_ HS.out HT.out KS.out (by have:=NQ.out.2.1;omega) (fun h0 z hz=>by rw [NQ.out.2.2] at hz;rw [Y1j hz];exact NQ.out.2.1))
  unfold EncO at KQ
  rw [NQ.out.2.2,EQ.out,HB.out,BL.out] at KQ
  go_wp2_with (go_at_call 23;refine Hid.out ?_)
  refine hid ?_
  refine KQ.out.mono ?_
  clear KQ
  rintro e wn ⟨y,⟨hm,_⟩ | ⟨_,A10,c10,rfl,hc10,rd10,hl10⟩⟩
  ·exact absurd NQ.out.1 hm
  have R0:=hid (R0.out.ext y)
  have RB:=hid (RB.out.ext y)
  have O2:=hid (O2.out.ext y)
  have D3:=hid (D3.out.ext y)
  have HT:=hid (Utf8Tabs_below HT.out y)
  have HS:=hid (HS.out.ext y)
  have R7:=hid (R7.out.ext y)
  have OZ:=hid (OZ.out.ext y)
  have OQ:=hid (OQ.out.ext y)
  replace hx:=Z0a hx y
  have R10:=hid rd10
  clear y rd10 hc10
  go_wp2_with (go_at_call 26;refine Hid.out ?_)
  refine hid ?_
  refine (Z5E O2.out.at_ IS.out (by have:=SN.out;omega) SL2.out UL.out).mono ?_
  rintro e wn ⟨A11,c11,Q3x,rfl,h_1,o_1,y⟩
  have R0:=hid (R0.out.ext y)
  have RB:=hid (RB.out.ext y)
  have O2:=hid (O2.out.ext y)
  have D3:=hid (D3.out.ext y)
  have HT:=hid (Utf8Tabs_below HT.out y)
  have HS:=hid (HS.out.ext y)
  have R7:=hid (R7.out.ext y)
  have OZ:=hid (OZ.out.ext y)
  have OQ:=hid (OQ.out.ext y)
  have R10:=hid (R10.out.ext y)
  replace hx:=Z0a hx y
  have EQ3x:=hid h_1
  have OQ3x:=hid o_1
  clear y h_1 o_1
  go_wp2_with (go_at_call 27;refine Hid.out ?_)
  refine hid ?_
  refine (Y4h (b:=true) OZ.out.at_ OQ3x.out.at_ (decide_eq_true (EZ.out.trans EQ3x.out.symm))).mono ?_
  rintro e wn ⟨rfl,y⟩
  have R0:=hid (R0.out.ext y)
  have RB:=hid (RB.out.ext y)
  have O2:=hid (O2.out.ext y)
  have D3:=hid (D3.out.ext y)
  have HT:=hid (Utf8Tabs_below HT.out y)
  have HS:=hid (HS.out.ext y)
  have R7:=hid (R7.out.ext y)
  have OZ:=hid (OZ.out.ext y)
  have OQ:=hid (OQ.out.ext y)
  have R10:=hid (R10.out.ext y)
  have OQ3x:=hid (OQ3x.out.ext y)
  replace hx:=Z0a hx y
  clear y
  have cv1:=Z31 (n:=bl) (c:=c10) BL.out.symm R10.out CD.out.u8
  have cv2:=Z31 (n:=bl) (c:=c7) BL.out.symm R7.out CD.out.u8
  obtain ⟨S,hS⟩:∃ V,strB BB=V:=⟨_,rfl⟩
  rw [hS] at cv1 cv2
  clear hS
  obtain ⟨r,hr⟩:∃ V,Z01 l0 l2 (Z0g d) 1000=V:=⟨_,rfl⟩
  by_cases h0:r=0
  rotate_left
  ·have h0b:(r != 0)=true:=by rw [bne,beq_eq_false_iff_ne.2 h0];rfl
   have h0c:(r==0)=false:=beq_eq_false_iff_ne.2 h0
   have KA:=hid (Y1b (c2:=c2) D3.out O2.out.at_ HS.out HT.out hr h0)
   clear hr h0
   go_wp2_with (go_at_call 28;refine Hid.out ?_)
   refine hid ?_
   refine KA.out.mono ?_
   clear KA cv1 cv2
   rintro e wn ⟨rfl,y⟩
   have R0:=hid (R0.out.ext y)
   have RB:=hid (RB.out.ext y)
   have O2:=hid (O2.out.ext y)
   have D3:=hid (D3.out.ext y)
   have HT:=hid (Utf8Tabs_below HT.out y)
   have HS:=hid (HS.out.ext y)
   have R7:=hid (R7.out.ext y)
   have OZ:=hid (OZ.out.ext y)
   have OQ:=hid (OQ.out.ext y)
   have R10:=hid (R10.out.ext y)
   have OQ3x:=hid (OQ3x.out.ext y)
   replace hx:=Z0a hx y
   clear y
   obtain ⟨zl,hzl⟩:∃ V,Z.length=V:=⟨_,rfl⟩
   have KA:=hid (Z3N s l0 A3 A8 n3 c3 Z.length c8 d Z 1000 _ D3.out.len rfl D3.out.cap (by have:=D3.out.b;omega) (by have:=OZ.out.at_.b;omega) D3.out.rd OZ.out.at_.rd HS.out (fun z hz=>⟨by have:=(D3.out.vr z hz).1;omega,(D3.out.vr z hz).2⟩) D3.out.caps OZ.out.at_.ok HT.out)
   rw [hzl] at KA
   rw [hzl]
   clear hzl
   go_wp2_with (go_at_call 28;refine Hid.out ?_)
   refine hid ?_
   refine KA.out.mono ?_
   clear KA
   rintro e wn ⟨y,⟨_,rfl⟩ | ⟨_,A12,c12,M,rfl,_,_,_⟩⟩
   ·obtain ⟨r9,hr9⟩:∃ V,Z01 l0 Z (Z0g d) 1000=V:=⟨_,rfl⟩
    rw [hr9]
    clear hr9
    have R0:=hid (R0.out.ext y)
    have RB:=hid (RB.out.ext y)
    have O2:=hid (O2.out.ext y)
    have D3:=hid (D3.out.ext y)
    have HT:=hid (Utf8Tabs_below HT.out y)
    have HS:=hid (HS.out.ext y)
    have R7:=hid (R7.out.ext y)
    have OZ:=hid (OZ.out.ext y)
    have OQ:=hid (OQ.out.ext y)
    have R10:=hid (R10.out.ext y)
    have OQ3x:=hid (OQ3x.out.ext y)
    replace hx:=Z0a hx y
    clear y
    go_wp2_with (go_at_call 8;refine Hid.out ?_)
    refine hid ?_
    refine (lives_any _).mono ?_
    rintro e w2 ⟨rfl,y⟩
    replace hx:=Z0a hx y
    go_wp2_with (fail)
    go_ret
    exact ⟨rfl,hx⟩
   ·obtain ⟨ml,hml⟩:∃ V,M.length=V:=⟨_,rfl⟩
    rw [hml]
    clear hml
    have R0:=hid (R0.out.ext y)
    have RB:=hid (RB.out.ext y)
    have O2:=hid (O2.out.ext y)
    have D3:=hid (D3.out.ext y)
    have HT:=hid (Utf8Tabs_below HT.out y)
    have HS:=hid (HS.out.ext y)
    have R7:=hid (R7.out.ext y)
    have OZ:=hid (OZ.out.ext y)
    have OQ:=hid (OQ.out.ext y)
    have R10:=hid (R10.out.ext y)
    have OQ3x:=hid (OQ3x.out.ext y)
    replace hx:=Z0a hx y
    clear y
    go_wp2_with (go_at_call 8;refine Hid.out ?_)
    refine hid ?_
    refine (lives_any _).mono ?_
    rintro e w2 ⟨rfl,y⟩
    replace hx:=Z0a hx y
    go_wp2_with (fail)
    go_ret
    exact ⟨rfl,hx⟩
  subst h0
  have LD:Hid ((Z0g d).length=n3):=hid D3.out.clen
  obtain ⟨N,hN1,hN2,hN3⟩:=Z7h (by have:=NB2.out;have:=N2.out;omega) (by have:=G3.out;omega) (by rw [LD.out];have:=G1.out.1;omega) hr
  have W1:=hid hN1
  have W2:=hid hN2
  have W3:=hid hN3
  have W4:=hid hr
  have MD:=hid (Z1y hN3).1
  obtain ⟨hg,hf⟩:=Z4O (n:=(Z0g d).length) (most:=N) (by have:=NB2.out;have:=N2.out;omega) (by omega) (Z1y hN3).2
  have FF:=hid hf
  have ZA:=hid (Y4f EZ.out (by have:=OZ.out.at_.b;have:=OZ.out.at_.len;omega) MD.out FF.out (by omega) hN2)
  clear hr hN1 hN2 hN3 hg hf
  have KA:=hid (Z4q (c2:=c2) (N:=N) (us:=Z0i (osOf l2)) D3.out O2.out.at_ HS.out HT.out H64.out W1.out W4.out W3.out rfl)
  go_wp2_with (go_at_call 28;refine Hid.out ?_)
  refine hid ?_
  refine KA.out.mono ?_
  clear KA cv1 cv2
  rintro e wn ⟨A12,c12,M1,rfl,h_1,m_1,b_1,d_1,y⟩
  have R0:=hid (R0.out.ext y)
  have RB:=hid (RB.out.ext y)
  have O2:=hid (O2.out.ext y)
  have D3:=hid (D3.out.ext y)
  have HT:=hid (Utf8Tabs_below HT.out y)
  have HS:=hid (HS.out.ext y)
  have R7:=hid (R7.out.ext y)
  have OZ:=hid (OZ.out.ext y)
  have OQ:=hid (OQ.out.ext y)
  have R10:=hid (R10.out.ext y)
  have OQ3x:=hid (OQ3x.out.ext y)
  replace hx:=Z0a hx y
  have D_M1:=hid d_1
  have E_M1:=hid h_1
  clear d_1 h_1 m_1 b_1 y
  obtain ⟨zl,hzl⟩:∃ V,Z.length=V:=⟨_,rfl⟩
  have KA:=hid (Z4q (c2:=c8) (N:=N) (us:=Z0i (osOf l2)) D3.out OZ.out.at_ HS.out HT.out H64.out W1.out ZA.out.1 ZA.out.2.1 ZA.out.2.2)
  rw [hzl] at KA
  rw [hzl]
  clear hzl
  go_wp2_with (go_at_call 28;refine Hid.out ?_)
  refine hid ?_
  refine KA.out.mono ?_
  clear KA
  rintro e wn ⟨A13,c13,M2,rfl,h_1,m_1,b_1,d_1,y⟩
  have R0:=hid (R0.out.ext y)
  have RB:=hid (RB.out.ext y)
  have O2:=hid (O2.out.ext y)
  have D3:=hid (D3.out.ext y)
  have HT:=hid (Utf8Tabs_below HT.out y)
  have HS:=hid (HS.out.ext y)
  have R7:=hid (R7.out.ext y)
  have OZ:=hid (OZ.out.ext y)
  have OQ:=hid (OQ.out.ext y)
  have R10:=hid (R10.out.ext y)
  have OQ3x:=hid (OQ3x.out.ext y)
  have D_M1:=hid (D_M1.out.ext y)
  replace hx:=Z0a hx y
  have D_M2:=hid d_1
  have E_M2:=hid h_1
  clear d_1 h_1 m_1 b_1 y
  have KC:=hid (Y8C (b:=true) D_M1.out D_M2.out (decide_eq_true (E_M1.out.trans E_M2.out.symm)))
  obtain ⟨ml1,hml1⟩:∃ V,M1.length=V:=⟨_,rfl⟩
  obtain ⟨ml2,hml2⟩:∃ V,M2.length=V:=⟨_,rfl⟩
  rw [hml1,hml2] at KC
  rw [hml1,hml2]
  clear hml1 hml2
  go_wp2_with (go_at_call 19;refine Hid.out ?_)
  refine hid ?_
  refine KC.out.mono ?_
  clear KC
  rintro e wn ⟨rfl,y⟩
  have R0:=hid (R0.out.ext y)
  have RB:=hid (RB.out.ext y)
  have O2:=hid (O2.out.ext y)
  have D3:=hid (D3.out.ext y)
  have HT:=hid (Utf8Tabs_below HT.out y)
  have HS:=hid (HS.out.ext y)
  have R7:=hid (R7.out.ext y)
  have OZ:=hid (OZ.out.ext y)
  have OQ:=hid (OQ.out.ext y)
  have R10:=hid (R10.out.ext y)
  have OQ3x:=hid (OQ3x.out.ext y)
  have D_M1:=hid (D_M1.out.ext y)
  have D_M2:=hid (D_M2.out.ext y)
  replace hx:=Z0a hx y
  clear y
  go_wp2_with (go_at_call 8;refine Hid.out ?_)
  refine hid ?_
  refine (lives_any _).mono ?_
  rintro e w2 ⟨rfl,y⟩
  replace hx:=Z0a hx y
  go_wp2_with (fail)
  go_ret
  exact ⟨rfl,hx⟩
 have R0:=hid (R0.out.ext y)
 have RB:=hid (RB.out.ext y)
 have O2:=hid (O2.out.ext y)
 have D3:=hid (D3.out.ext y)
 have HT:=hid (Utf8Tabs_below HT.out y)
 have HS:=hid (HS.out.ext y)
 replace hx:=Z0a hx y
 have OX:=hid oX
 have MX:=hid mX
 have NX:=hid nX
 have CO:=hid (Y1i U1.out hX)
 clear y oX hX mX nX
 have HXB:Hid (wX (mkU (Z0i (osOf X)))=b):=hid (by rw [NX.out];exact CO.out.1.symm)
 have SX2:Hid (szN X≤2000):=hid (by have:=CO.out.2;have:=N1.out;have:=TB.out;omega)
 have KE:=hid (Z2S s l0 A5 X.length c5 X _ OX.out.at_ HS.out HT.out KS.out (by have:=SX2.out;omega) (fun _ z hz=>by rw [NX.out] at hz;rw [Y1j hz];have:=SX2.out;omega))
 unfold EncO at KE
 rw [HXB.out,←N1.out] at KE
 obtain ⟨xl,hxl⟩:∃ V,X.length=V:=⟨_,rfl⟩
 have XL:=hid hxl
 rw [hxl] at KE OX
 rw [hxl]
 clear hxl
 go_wp2_with (go_at_call 23;refine Hid.out ?_)
 refine hid ?_
 refine KE.out.mono ?_
 clear KE
 rintro e wn ⟨y,⟨hm,_⟩ | ⟨_,A6,c6,rfl,hc6,rd6,hl6⟩⟩
 ·exact absurd MX.out hm
 have R0:=hid (R0.out.ext y)
 have RB:=hid (RB.out.ext y)
 have O2:=hid (O2.out.ext y)
 have D3:=hid (D3.out.ext y)
 have HT:=hid (Utf8Tabs_below HT.out y)
 have HS:=hid (HS.out.ext y)
 have OX:=hid (OX.out.ext y)
 replace hx:=Z0a hx y
 have cv1:=Z31 (n:=n1) (c:=c6) N1.out rd6 U1.out
 have cv2:=Z31 (n:=n1) (c:=c1) N1.out RB.out U1.out
 obtain ⟨S,hS⟩:∃ V,strB b=V:=⟨_,rfl⟩
 rw [hS] at cv1 cv2
 have NE:=hid (Z2i (l:=l0) (x:=X) (by rw [MX.out];decide) (by have:=Z2D X;have:=SX2.out;omega))
 have L64:Hid (∀ o∈X,o.o.s.length≤1000000∧o.o.p.length≤1000000):=hid (fun o ho=>by
  have h1:=(Z92 (l:=l0) (x:=X) (by rw [MX.out];decide)).1 o ho
  have h2:=Y34 h1 (NE.out.1 o ho)
  omega)
 have KN:=hid (Z7e (b:=true) (c:=c5) OX.out.at_ NE.out.1 (by have:=SX2.out;omega) L64.out (by have:=NE.out.2.1;omega) (decide_eq_true NX.out))
 clear y rd6 hc6 hl6 hS
 go_wp2_with (go_at_call 24;refine Hid.out ?_)
 refine hid ?_
 refine KN.out.mono ?_
 clear KN cv1 cv2
 rintro e wn ⟨rfl,y⟩
 have R0:=hid (R0.out.ext y)
 have RB:=hid (RB.out.ext y)
 have O2:=hid (O2.out.ext y)
 have D3:=hid (D3.out.ext y)
 have HT:=hid (Utf8Tabs_below HT.out y)
 have HS:=hid (HS.out.ext y)
 have OX:=hid (OX.out.ext y)
 replace hx:=Z0a hx y
 clear y
 obtain ⟨m,hm⟩:∃ V,mayO l0 l2=V:=⟨_,rfl⟩
 have HM:=hid hm
 clear hm
 have KE:=hid (Z2S s l0 A2 n2 c2 l2 _ O2.out.at_ HS.out HT.out KS.out (by have:=SN.out;omega) (fun h0 z hz=>((Y5Z KS.out h0 Q2.out SN.out).nf z hz).2.1))
 unfold EncO at KE
 by_cases m0:m=0
 rotate_left
 ·have m0b:(m != 0)=true:=by rw [bne,beq_eq_false_iff_ne.2 m0];rfl
  have m0c:(m==0)=false:=beq_eq_false_iff_ne.2 m0
  have mm:(m != m)=false:=by rw [bne,beq_self_eq_true];rfl
  have mm2:(m==m)=true:=beq_self_eq_true _
  have M0:=hid m0
  have MV:Hid (m=3∨m=4):=hid (by rcases Z7g l0 l2 with h|h|h<;>rw [HM.out] at h;exact absurd h m0;exact .inl h;exact .inr h)
  clear m0
  go_wp2_with (go_at_call 23;refine Hid.out ?_)
  refine hid ?_
  refine KE.out.mono ?_
  clear KE
  rintro e wn ⟨y,⟨hm,rfl⟩ | ⟨hm,_⟩⟩
  rotate_left
  ·exact absurd (HM.out.symm.trans hm) M0.out
  rw [HM.out]
  have R0:=hid (R0.out.ext y)
  have RB:=hid (RB.out.ext y)
  have O2:=hid (O2.out.ext y)
  have D3:=hid (D3.out.ext y)
  have HT:=hid (Utf8Tabs_below HT.out y)
  have HS:=hid (HS.out.ext y)
  have OX:=hid (OX.out.ext y)
  replace hx:=Z0a hx y
  clear y hm
  go_wp2_with (go_at_call 25;refine Hid.out ?_)
  refine hid ?_
  refine (Z5D N0.out R0.out (by omega) O2.out.at_ (by have:=G3.out;omega) HT.out HM.out).mono ?_
  rintro e wn ⟨rfl,y⟩
  have R0:=hid (R0.out.ext y)
  have RB:=hid (RB.out.ext y)
  have O2:=hid (O2.out.ext y)
  have D3:=hid (D3.out.ext y)
  have HT:=hid (Utf8Tabs_below HT.out y)
  have HS:=hid (HS.out.ext y)
  have OX:=hid (OX.out.ext y)
  replace hx:=Z0a hx y
  clear y
  rcases MV.out with h3|h3
  ·subst h3
   go_wp2_with (go_at_call 8;refine Hid.out ?_)
   refine hid ?_
   refine (lives_any _).mono ?_
   rintro e w2 ⟨rfl,y⟩
   replace hx:=Z0a hx y
   go_wp2_with (fail)
   go_ret
   exact ⟨rfl,hx⟩
  ·subst h3
   go_wp2_with (go_at_call 8;refine Hid.out ?_)
   refine hid ?_
   refine (lives_any _).mono ?_
   rintro e w2 ⟨rfl,y⟩
   replace hx:=Z0a hx y
   go_wp2_with (fail)
   go_ret
   exact ⟨rfl,hx⟩
 subst m0
 have CD:=hid (Y5Z KS.out HM.out Q2.out SN.out)
 obtain ⟨BB,hBB⟩:∃ V,wX (mkU (Z0i (osOf l2)))=V:=⟨_,rfl⟩
 have HB:=hid hBB
 rw [hBB] at KE CD
 obtain ⟨bl,hbl⟩:∃ V,BB.length=V:=⟨_,rfl⟩
 have BL:=hid hbl
 rw [hbl] at KE
 clear hBB hbl
 go_wp2_with (go_at_call 23;refine Hid.out ?_)
 refine hid ?_
 refine KE.out.mono ?_
 clear KE
 rintro e wn ⟨y,⟨hm,_⟩ | ⟨_,A7,c7,rfl,hc7,rd7,hl7⟩⟩
 ·exact absurd HM.out hm
 have R0:=hid (R0.out.ext y)
 have RB:=hid (RB.out.ext y)
 have O2:=hid (O2.out.ext y)
 have D3:=hid (D3.out.ext y)
 have HT:=hid (Utf8Tabs_below HT.out y)
 have HS:=hid (HS.out.ext y)
 have OX:=hid (OX.out.ext y)
 replace hx:=Z0a hx y
 have R7:=hid rd7
 have K7:=hid hc7
 clear y rd7 hc7
 go_wp2_with (go_at_call 25;refine Hid.out ?_)
 refine hid ?_
 refine (Z5D N0.out R0.out (by omega) O2.out.at_ (by have:=G3.out;omega) HT.out HM.out).mono ?_
 rintro e wn ⟨rfl,y⟩
 have R0:=hid (R0.out.ext y)
 have RB:=hid (RB.out.ext y)
 have O2:=hid (O2.out.ext y)
 have D3:=hid (D3.out.ext y)
 have HT:=hid (Utf8Tabs_below HT.out y)
 have HS:=hid (HS.out.ext y)
 have OX:=hid (OX.out.ext y)
 have R7:=hid (R7.out.ext y)
 replace hx:=Z0a hx y
 clear y
 have KD:=hid (Z4T s l0 A7 bl c7 BB _ BL.out.symm K7.out R7.out CD.out.u8 (by have:=CD.out.len;have:=BL.out;omega) HS.out HT.out (fun X hX=>by
  have h1:=CD.out.back
  rw [BL.out,hX] at h1
  injection h1 with h1
  injection h1 with h1 _
  have:=(CD.out.nf X h1).2.1
  omega))
 go_wp2_with (go_at_call 22;refine Hid.out ?_)
 refine hid ?_
 refine KD.out.mono ?_
 clear KD
 rintro e wn ⟨y,⟨r8,hr8,rfl,hno⟩ | ⟨A8,c8,Z,rfl,oZ,hZ,mZ,nZ⟩⟩
 ·have h1:=CD.out.back
  rw [BL.out,←Z2T (mkU (Z0i (osOf l2)))] at h1
  have h2:=CD.out.nf _ (Z2T _)
  exact absurd h2.2.2 (hno _ h1 h2.1)
 have R0:=hid (R0.out.ext y)
 have RB:=hid (RB.out.ext y)
 have O2:=hid (O2.out.ext y)
 have D3:=hid (D3.out.ext y)
 have HT:=hid (Utf8Tabs_below HT.out y)
 have HS:=hid (HS.out.ext y)
 have OX:=hid (OX.out.ext y)
 have R7:=hid (R7.out.ext y)
 replace hx:=Z0a hx y
 have EZ:Hid (osOf Z=mkU (Z0i (osOf l2))):=hid (by
  have h1:=CD.out.back
  rw [BL.out,hZ] at h1
  injection h1 with h1
  injection h1 with h1 _)
 have OZ:=hid oZ
 clear y oZ hZ mZ nZ
 have g1:=(Z1s HM.out).1
 have IS:=hid (Z03 g1)
 have UL:Hid ((Z0i (osOf l2)).length≤4000000000):=hid (by have:=(Z2i (l:=l0) (x:=l2) (by rw [HM.out];decide) (by have:=Z2D l2;have:=SN.out;omega)).2.1;omega)
 clear g1
 go_wp2_with (go_at_call 26;refine Hid.out ?_)
 refine hid ?_
 refine (Z5E O2.out.at_ IS.out (by have:=SN.out;omega) SL2.out UL.out).mono ?_
 rintro e wn ⟨A9,c9,Q,rfl,h_1,o_1,y⟩
 have R0:=hid (R0.out.ext y)
 have RB:=hid (RB.out.ext y)
 have O2:=hid (O2.out.ext y)
 have D3:=hid (D3.out.ext y)
 have HT:=hid (Utf8Tabs_below HT.out y)
 have HS:=hid (HS.out.ext y)
 have OX:=hid (OX.out.ext y)
 have R7:=hid (R7.out.ext y)
 have OZ:=hid (OZ.out.ext y)
 replace hx:=Z0a hx y
 have EQ:=hid h_1
 have OQ:=hid o_1
 clear y h_1 o_1
 have NQ:=hid (CD.out.nf Q EQ.out)
 have KQ:=hid (Z2S s l0 A9 Q.length c9 Q _ OQ.out.at_ HS.out HT.out KS.out (by have:=NQ.out.2.1;omega) (fun h0 z hz=>by rw [NQ.out.2.2] at hz;rw [Y1j hz];exact NQ.out.2.1))
 unfold EncO at KQ
 rw [NQ.out.2.2,EQ.out,HB.out,BL.out] at KQ
 go_wp2_with (go_at_call 23;refine Hid.out ?_)
 refine hid ?_
 refine KQ.out.mono ?_
 clear KQ
 rintro e wn ⟨y,⟨hm,_⟩ | ⟨_,A10,c10,rfl,hc10,rd10,hl10⟩⟩
 ·exact absurd NQ.out.1 hm
 have R0:=hid (R0.out.ext y)
 have RB:=hid (RB.out.ext y)
 have O2:=hid (O2.out.ext y)
 have D3:=hid (D3.out.ext y)
 have HT:=hid (Utf8Tabs_below HT.out y)
 have HS:=hid (HS.out.ext y)
 have OX:=hid (OX.out.ext y)
 have R7:=hid (R7.out.ext y)
 have OZ:=hid (OZ.out.ext y)
 have OQ:=hid (OQ.out.ext y)
 replace hx:=Z0a hx y
 have R10:=hid rd10
 clear y rd10 hc10
 go_wp2_with (go_at_call 26;refine Hid.out ?_)
 refine hid ?_
 refine (Z5E O2.out.at_ IS.out (by have:=SN.out;omega) SL2.out UL.out).mono ?_
 rintro e wn ⟨A11,c11,Q3x,rfl,h_1,o_1,y⟩
 have R0:=hid (R0.out.ext y)
 have RB:=hid (RB.out.ext y)
 have O2:=hid (O2.out.ext y)
 have D3:=hid (D3.out.ext y)
 have HT:=hid (Utf8Tabs_below HT.out y)
 have HS:=hid (HS.out.ext y)
 have OX:=hid (OX.out.ext y)
 have R7:=hid (R7.out.ext y)
 have OZ:=hid (OZ.out.ext y)
 have OQ:=hid (OQ.out.ext y)
 have R10:=hid (R10.out.ext y)
 replace hx:=Z0a hx y
 have EQ3x:=hid h_1
 have OQ3x:=hid o_1
 clear y h_1 o_1
 go_wp2_with (go_at_call 27;refine Hid.out ?_)
 refine hid ?_
 refine (Y4h (b:=true) OZ.out.at_ OQ3x.out.at_ (decide_eq_true (EZ.out.trans EQ3x.out.symm))).mono ?_
 rintro e wn ⟨rfl,y⟩
 have R0:=hid (R0.out.ext y)
 have RB:=hid (RB.out.ext y)
 have O2:=hid (O2.out.ext y)
 have D3:=hid (D3.out.ext y)
 have HT:=hid (Utf8Tabs_below HT.out y)
 have HS:=hid (HS.out.ext y)
 have OX:=hid (OX.out.ext y)
 have R7:=hid (R7.out.ext y)
 have OZ:=hid (OZ.out.ext y)
 have OQ:=hid (OQ.out.ext y)
 have R10:=hid (R10.out.ext y)
 have OQ3x:=hid (OQ3x.out.ext y)
 replace hx:=Z0a hx y
 clear y
 have cv1:=Z31 (n:=bl) (c:=c10) BL.out.symm R10.out CD.out.u8
 have cv2:=Z31 (n:=bl) (c:=c7) BL.out.symm R7.out CD.out.u8
 obtain ⟨S,hS⟩:∃ V,strB BB=V:=⟨_,rfl⟩
 rw [hS] at cv1 cv2
 clear hS
 obtain ⟨r,hr⟩:∃ V,Z01 l0 l2 (Z0g d) 1000=V:=⟨_,rfl⟩
 by_cases h0:r=0
 rotate_left
 ·have h0b:(r != 0)=true:=by rw [bne,beq_eq_false_iff_ne.2 h0];rfl
  have h0c:(r==0)=false:=beq_eq_false_iff_ne.2 h0
  have KA:=hid (Y1b (c2:=c2) D3.out O2.out.at_ HS.out HT.out hr h0)
  clear hr h0
  go_wp2_with (go_at_call 28;refine Hid.out ?_)
  refine hid ?_
  refine KA.out.mono ?_
  clear KA cv1 cv2
  rintro e wn ⟨rfl,y⟩
  have R0:=hid (R0.out.ext y)
  have RB:=hid (RB.out.ext y)
  have O2:=hid (O2.out.ext y)
  have D3:=hid (D3.out.ext y)
  have HT:=hid (Utf8Tabs_below HT.out y)
  have HS:=hid (HS.out.ext y)
  have OX:=hid (OX.out.ext y)
  have R7:=hid (R7.out.ext y)
  have OZ:=hid (OZ.out.ext y)
  have OQ:=hid (OQ.out.ext y)
  have R10:=hid (R10.out.ext y)
  have OQ3x:=hid (OQ3x.out.ext y)
  replace hx:=Z0a hx y
  clear y
  obtain ⟨zl,hzl⟩:∃ V,Z.length=V:=⟨_,rfl⟩
  have KA:=hid (Z3N s l0 A3 A8 n3 c3 Z.length c8 d Z 1000 _ D3.out.len rfl D3.out.cap (by have:=D3.out.b;omega) (by have:=OZ.out.at_.b;omega) D3.out.rd OZ.out.at_.rd HS.out (fun z hz=>⟨by have:=(D3.out.vr z hz).1;omega,(D3.out.vr z hz).2⟩) D3.out.caps OZ.out.at_.ok HT.out)
  rw [hzl] at KA
  rw [hzl]
  clear hzl
  go_wp2_with (go_at_call 28;refine Hid.out ?_)
  refine hid ?_
  refine KA.out.mono ?_
  clear KA
  rintro e wn ⟨y,⟨_,rfl⟩ | ⟨_,A12,c12,M,rfl,_,_,_⟩⟩
  ·obtain ⟨r9,hr9⟩:∃ V,Z01 l0 Z (Z0g d) 1000=V:=⟨_,rfl⟩
   rw [hr9]
   clear hr9
   have R0:=hid (R0.out.ext y)
   have RB:=hid (RB.out.ext y)
   have O2:=hid (O2.out.ext y)
   have D3:=hid (D3.out.ext y)
   have HT:=hid (Utf8Tabs_below HT.out y)
   have HS:=hid (HS.out.ext y)
   have OX:=hid (OX.out.ext y)
   have R7:=hid (R7.out.ext y)
   have OZ:=hid (OZ.out.ext y)
   have OQ:=hid (OQ.out.ext y)
   have R10:=hid (R10.out.ext y)
   have OQ3x:=hid (OQ3x.out.ext y)
   replace hx:=Z0a hx y
   clear y
   go_wp2_with (go_at_call 8;refine Hid.out ?_)
   refine hid ?_
   refine (lives_any _).mono ?_
   rintro e w2 ⟨rfl,y⟩
   replace hx:=Z0a hx y
   go_wp2_with (fail)
   go_ret
   exact ⟨rfl,hx⟩
  ·obtain ⟨ml,hml⟩:∃ V,M.length=V:=⟨_,rfl⟩
   rw [hml]
   clear hml
   have R0:=hid (R0.out.ext y)
   have RB:=hid (RB.out.ext y)
   have O2:=hid (O2.out.ext y)
   have D3:=hid (D3.out.ext y)
   have HT:=hid (Utf8Tabs_below HT.out y)
   have HS:=hid (HS.out.ext y)
   have OX:=hid (OX.out.ext y)
   have R7:=hid (R7.out.ext y)
   have OZ:=hid (OZ.out.ext y)
   have OQ:=hid (OQ.out.ext y)
   have R10:=hid (R10.out.ext y)
   have OQ3x:=hid (OQ3x.out.ext y)
   replace hx:=Z0a hx y
   clear y
   go_wp2_with (go_at_call 8;refine Hid.out ?_)
   refine hid ?_
   refine (lives_any _).mono ?_
   rintro e w2 ⟨rfl,y⟩
   replace hx:=Z0a hx y
   go_wp2_with (fail)
   go_ret
   exact ⟨rfl,hx⟩
 subst h0
 have LD:Hid ((Z0g d).length=n3):=hid D3.out.clen
 obtain ⟨N,hN1,hN2,hN3⟩:=Z7h (by have:=NB2.out;have:=N2.out;omega) (by have:=G3.out;omega) (by rw [LD.out];have:=G1.out.1;omega) hr
 have W1:=hid hN1
 have W2:=hid hN2
 have W3:=hid hN3
 have W4:=hid hr
 have MD:=hid (Z1y hN3).1
 obtain ⟨hg,hf⟩:=Z4O (n:=(Z0g d).length) (most:=N) (by have:=NB2.out;have:=N2.out;omega) (by omega) (Z1y hN3).2
 have FF:=hid hf
 have ZA:=hid (Y4f EZ.out (by have:=OZ.out.at_.b;have:=OZ.out.at_.len;omega) MD.out FF.out (by omega) hN2)
 clear hr hN1 hN2 hN3 hg hf
 have KA:=hid (Z4q (c2:=c2) (N:=N) (us:=Z0i (osOf l2)) D3.out O2.out.at_ HS.out HT.out H64.out W1.out W4.out W3.out rfl)
 go_wp2_with (go_at_call 28;refine Hid.out ?_)
 refine hid ?_
 refine KA.out.mono ?_
 clear KA cv1 cv2
 rintro e wn ⟨A12,c12,M1,rfl,h_1,m_1,b_1,d_1,y⟩
 have R0:=hid (R0.out.ext y)
 have RB:=hid (RB.out.ext y)
 have O2:=hid (O2.out.ext y)
 have D3:=hid (D3.out.ext y)
 have HT:=hid (Utf8Tabs_below HT.out y)
 have HS:=hid (HS.out.ext y)
 have OX:=hid (OX.out.ext y)
 have R7:=hid (R7.out.ext y)
 have OZ:=hid (OZ.out.ext y)
 have OQ:=hid (OQ.out.ext y)
 have R10:=hid (R10.out.ext y)
 have OQ3x:=hid (OQ3x.out.ext y)
 replace hx:=Z0a hx y
 have D_M1:=hid d_1
 have E_M1:=hid h_1
 clear d_1 h_1 m_1 b_1 y
 obtain ⟨zl,hzl⟩:∃ V,Z.length=V:=⟨_,rfl⟩
 have KA:=hid (Z4q (c2:=c8) (N:=N) (us:=Z0i (osOf l2)) D3.out OZ.out.at_ HS.out HT.out H64.out W1.out ZA.out.1 ZA.out.2.1 ZA.out.2.2)
 rw [hzl] at KA
 rw [hzl]
 clear hzl
 go_wp2_with (go_at_call 28;refine Hid.out ?_)
 refine hid ?_
 refine KA.out.mono ?_
 clear KA
 rintro e wn ⟨A13,c13,M2,rfl,h_1,m_1,b_1,d_1,y⟩
 have R0:=hid (R0.out.ext y)
 have RB:=hid (RB.out.ext y)
 have O2:=hid (O2.out.ext y)
 have D3:=hid (D3.out.ext y)
 have HT:=hid (Utf8Tabs_below HT.out y)
 have HS:=hid (HS.out.ext y)
 have OX:=hid (OX.out.ext y)
 have R7:=hid (R7.out.ext y)
 have OZ:=hid (OZ.out.ext y)
 have OQ:=hid (OQ.out.ext y)
 have R10:=hid (R10.out.ext y)
 have OQ3x:=hid (OQ3x.out.ext y)
 have D_M1:=hid (D_M1.out.ext y)
 replace hx:=Z0a hx y
 have D_M2:=hid d_1
 have E_M2:=hid h_1
 clear d_1 h_1 m_1 b_1 y
 have KC:=hid (Y8C (b:=true) D_M1.out D_M2.out (decide_eq_true (E_M1.out.trans E_M2.out.symm)))
 obtain ⟨ml1,hml1⟩:∃ V,M1.length=V:=⟨_,rfl⟩
 obtain ⟨ml2,hml2⟩:∃ V,M2.length=V:=⟨_,rfl⟩
 rw [hml1,hml2] at KC
 rw [hml1,hml2]
 clear hml1 hml2
 go_wp2_with (go_at_call 19;refine Hid.out ?_)
 refine hid ?_
 refine KC.out.mono ?_
 clear KC
 rintro e wn ⟨rfl,y⟩
 have R0:=hid (R0.out.ext y)
 have RB:=hid (RB.out.ext y)
 have O2:=hid (O2.out.ext y)
 have D3:=hid (D3.out.ext y)
 have HT:=hid (Utf8Tabs_below HT.out y)
 have HS:=hid (HS.out.ext y)
 have OX:=hid (OX.out.ext y)
 have R7:=hid (R7.out.ext y)
 have OZ:=hid (OZ.out.ext y)
 have OQ:=hid (OQ.out.ext y)
 have R10:=hid (R10.out.ext y)
 have OQ3x:=hid (OQ3x.out.ext y)
 have D_M1:=hid (D_M1.out.ext y)
 have D_M2:=hid (D_M2.out.ext y)
 replace hx:=Z0a hx y
 clear y
 go_wp2_with (go_at_call 8;refine Hid.out ?_)
 refine hid ?_
 refine (lives_any _).mono ?_
 rintro e w2 ⟨rfl,y⟩
 replace hx:=Z0a hx y
 go_wp2_with (fail)
 go_ret
 exact ⟨rfl,hx⟩
open Go.ChangeShapes Go.WideShapes Go.ChangeAt Go.RowKit Go.Deep
set_option linter.constructorNameAsVariable false
set_option maxRecDepth 20000
theorem Tryz.own:ownKnob Tryz.prog.godebug=none:=by kernel_rfl
theorem Tryz.laidOut:laidOutB Tryz.prog=true:=by kernel_rfl
theorem Tryz.undBool:Tryz.prog.underlying 4=some .bool:=by kernel_rfl
theorem Tryz.uI32:Tryz.prog.underlying 21=some (.int .i32):=by kernel_rfl
theorem Tryz.clU8:Tryz.prog.cellsOf 5=1:=by kernel_rfl
theorem Tryz.clI32:Tryz.prog.cellsOf 21=1:=by kernel_rfl
theorem Tryz.uTab:Tryz.prog.underlying 341=some (.array 256 5):=by kernel_rfl
theorem Tryz.clTab:Tryz.prog.cellsOf 341=256:=by kernel_rfl
theorem Tryz.uAcc:Tryz.prog.underlying 344=some (.array 16 343):=by kernel_rfl
theorem Tryz.uAccR:Tryz.prog.underlying 343=some (.struct (Tryz.prog.fieldsOf 343)):=by kernel_rfl
theorem Tryz.clAccR:Tryz.prog.cellsOf 343=2:=by kernel_rfl
theorem Tryz.fdAccR:(Tryz.prog.fieldsOf 343).toList.map (fun f=>(f.type,f.offset))=[(5,0),(5,1)]:=by kernel_rfl
theorem Tryz.gFirst:Tryz.prog.globalNamed "unicode/utf8.first" = some 0:=by kernel_rfl
theorem Tryz.gAcc:Tryz.prog.globalNamed "unicode/utf8.acceptRanges" = some 1:=by kernel_rfl
theorem Tryz.gtFirst:(Tryz.prog.globals[0]?).map (·.type)=some 341:=by kernel_rfl
theorem Tryz.gtAcc:(Tryz.prog.globals[1]?).map (·.type)=some 344:=by kernel_rfl
def Z4C:List (String×DataW Unit):=[("unicode/utf8.acceptRanges",Rows.laid_unicode_utf8_acceptRanges),("unicode/utf8.first",Rows.laid_unicode_utf8_first)]
theorem Y7W:Rows.laid_unicode_utf8_first=Lib.firstData:=by kernel_rfl
theorem accEq:(Rows.laid_unicode_utf8_acceptRanges:DataW Unit)=Lib.acceptData:=by kernel_rfl
theorem Y8Z {fs:Array Field} {l:List (TypeId×Nat)} (h:fs.toList.map (fun f=>(f.type,f.offset))=l) {i:Nat} {f:Field} (hf:fs[i]? = some f):l[i]? = some (f.type,f.offset):=by
 rw [←h,List.getElem?_map,Array.getElem?_toList,hf]
 rfl
theorem tabs {W:World} (h:laidMetH Tryz.prog Z4C W):Utf8Tabs 0 1 W:=by
 have h':laidMet Tryz.prog Z4C W:=by
  unfold laidMetH at h
  rw [show (Z4C.filter fun x=>x.2.handleName?.isSome)=[] from by kernel_rfl] at h
  exact h
 have r1:=Lib.laidMet.reads h' (n := "unicode/utf8.first") (d:=Rows.laid_unicode_utf8_first) (by simp [Z4C])
 have r2:=Lib.laidMet.reads h' (n := "unicode/utf8.acceptRanges") (d:=Rows.laid_unicode_utf8_acceptRanges) (by simp [Z4C])
 rw [Y7W] at r1
 rw [accEq] at r2
 refine ⟨fun c hc=>?_,fun i hi=>?_⟩
 ·obtain ⟨g,t,cs,fuel,p,hg,hty,hvar,hd⟩:=r1
  obtain rfl:=Option.some.inj (Tryz.gFirst.symm.trans hg)
  obtain rfl:=Option.some.inj (Tryz.gtFirst.symm.trans hty)
  have hcs:=Lib.cells_of_tab Tryz.uTab Tryz.uU8 Tryz.clU8 Tryz.clTab hd
  rw [World.var?_cell hg hvar c,←Array.getElem?_toList,hcs]
  simp [Lib.firstTab,hc]
 ·obtain ⟨g,t,cs,fuel,p,hg,hty,hvar,hd⟩:=r2
  obtain rfl:=Option.some.inj (Tryz.gAcc.symm.trans hg)
  obtain rfl:=Option.some.inj (Tryz.gtAcc.symm.trans hty)
  obtain ⟨fuel',d,q,hdi,he⟩:=Lib.array_elem Tryz.uAcc hd i hi
  simp only [List.getElem?_map,List.getElem?_range hi,Option.map_some,Option.some.injEq] at hdi
  subst hdi
  rw [Tryz.clAccR] at he
  have hcs:=Lib.ints_of_struct Tryz.uAccR (fun j f hj=>by
   have h2:=Y8Z Tryz.fdAccR hj
   match j,h2 with
   | 0,h2=>injection h2 with h2;injection h2 with h2 h3;rw [←h2,←h3];exact ⟨Tryz.uU8,rfl,Tryz.clU8⟩
   | 1,h2=>injection h2 with h2;injection h2 with h2 h3;rw [←h2,←h3];exact ⟨Tryz.uU8,rfl,Tryz.clU8⟩
   | j+2,h2=>simp at h2) (by rw [Tryz.clAccR];kernel_rfl) he
  have e0:=congrArg (·[0]?) hcs
  have e1:=congrArg (·[1]?) hcs
  simp only [List.getElem?_take,List.getElem?_drop] at e0 e1
  constructor
  ·rw [World.var?_cell hg hvar (2*i),←Array.getElem?_toList]
   simpa [Nat.mul_comm] using e0
  ·rw [World.var?_cell hg hvar (2*i+1),←Array.getElem?_toList]
   simpa [Nat.mul_comm] using e1
def Y80 (cs:Array Value):Obj→Obj
 | .cells _ t frozen=>.cells cs t frozen
 | o=>o
noncomputable def laidWorld (os:Os):World:=
 { World.holding Tryz.prog os ⟨#[],#[],[]⟩ with heap:=((World.holding Tryz.prog os ⟨#[],#[],[]⟩).heap.modify 0 (Y80 (Lib.firstTab.map (Value.int .u8)).toArray)).modify 1 (Y80 ((List.range 16).flatMap fun i=>[Value.int .u8 (Lib.accLo i),Value.int .u8 (Lib.accHi i)]).toArray) }
section
variable {H:Type} {enc:TypeId×Value→H} {P:Program} {W W':World}
theorem Z4D (hl:laidOutB P=true) (hb:Below W.heap.size W W'):∀ (ts:List TypeId) (vs:List Value) (ds:List (DataW H)) (ps:List MemPlace),(∀ t∈ts,P.readableRec t=true∧t<P.types.size) →
 DataW.TrodAll enc P W 0 (fun _=>true) true ts vs ds ps→(∀ x∈ps,x.block<W.heap.size)→DataW.TrodAll enc P W' 0 (fun b=>decide (b<W.heap.size)) true ts vs ds ps
 | [],vs,ds,ps,_,h,_=>by
   obtain ⟨rfl,rfl,rfl⟩:=trodAll_nil h
   exact trodAll_mk0
 | t::ts,vs,ds,ps,ht,h,hp=>by
   obtain ⟨v,vs',d,ds',p,q,rfl,rfl,rfl,h0,r⟩:=trodAll_cons h
   have h1:=ht t (by simp)
   exact trodAll_cons_mk (Below.trod hl h1.1 h1.2 h0 hb (fun x hx=>hp x (List.mem_append_left _ hx)))
    (Z4D hl hb ts vs' ds' q (fun u hu=>ht u (List.mem_cons_of_mem _ hu)) r (fun x hx=>hp x (List.mem_append_right _ hx)))
theorem Y6s {f:Func} {s:ChangeSpec} {args:Array Value} {ds gs:List (DataW H)} {before:List MemPlace} {tb:TypeId}
 (hW:DataW.Whole enc P f.params.toList s.vars false W args.toList ds gs before) (hv:s.vars=[]) (hr:f.resultTypes=#[tb]) (hu:P.underlying tb=some .bool)
 (hspec:s.fn H ds={ results:=[.lit (.bool true)],args:=ds }) (hl:laidOutB P=true) (hrr:f.params.toList.all (fun t=>P.readableRec t&&decide (t<P.types.size))=true) (hb:Below W.heap.size W W') :
 s.post enc P f false true false false W args (.bool true) W':=by
 have hW0:=hW
 obtain ⟨p,q,hA,hV,rfl,_,_⟩:=hW
 rw [hv] at hV
 obtain ⟨rfl,rfl⟩:=trodVars_none hV
 have hlt:∀ x∈p++[],x.block<W.heap.size:=fun x hx=>hW0.lt x hx
 rw [List.append_nil] at hlt
 refine ⟨ds,[],p++[],[],p,[],hW0,?_,?_,?_,World.keptBut_mono (fun x hx=>⟨by simpa using hx,by simpa using hx⟩) (hb.frame (· ∈ p)),fun h=>by cases h⟩
 ·rw [hr,List.append_nil,hspec]
  exact trodAll_mk1 (shut_bool hu true)
 ·rw [List.append_nil,hspec]
  exact Z4D hl hb _ _ _ _ (fun t ht=>by have:=List.all_eq_true.1 hrr t ht;simpa using this) hA hlt
 ·rw [hv,List.append_nil,hspec]
  rfl
end
section
variable {H:Type} {enc:TypeId×Value→H} {w:World} {base:Nat} {spare:Nat→Bool} {held:Bool} {fuel:Nat} {cs:List Value} {x:DataW H×List MemPlace}
theorem Y7X (h:DataW.trod enc Tryz.prog w base spare held fuel 5 cs=some x):∃ u:UInt8,cs=encB u:=by
 obtain ⟨z,hz,_,hw⟩:=DataW.trod_int Tryz.uU8 h
 have hr:0≤z∧z≤255:=by
  have:=hw
  simp [Lit.wf] at this
  have h1:IntKind.u8.min=0:=by decide
  have h2:IntKind.u8.max=255:=by decide
  rw [h1,h2] at this
  exact this
 refine ⟨UInt8.ofNat z.toNat,?_⟩
 rw [hz]
 unfold encB
 rw [UInt8.toNat_ofNat']
 congr 2
 omega
end
end Go.Proofs.YtnmedachaeanbaaGreatDoor
