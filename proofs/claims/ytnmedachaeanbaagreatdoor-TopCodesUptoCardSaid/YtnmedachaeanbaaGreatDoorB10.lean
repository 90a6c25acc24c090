/- Merged texts. -/
import Derived.Test.YtnmedachaeanbaaGreatDoorB9
namespace Go.Proofs.YtnmedachaeanbaaGreatDoor
set_option maxRecDepth 100000
set_option maxHeartbeats 6400000
open Go.RowKit
open Go.Lib (hid)
set_option linter.unusedVariables false
set_option linter.unusedSimpArgs false
def BoxP (w:World) (b p:Nat):Prop:=w.heap[b]? = some (.cells #[.pointer (some ⟨p,0,none⟩)] 139 (0,0))
theorem BoxP.grow {w w':World} {F G:Nat→Prop} {b p:Nat} (h:BoxP w b p) (g:Grow w F w' G) (hn:¬ F b):BoxP w' b p:=(g.block b (Z0p h) hn).trans h
theorem BoxP.below {w w':World} {b p:Nat} (h:BoxP w b p) (y:Below w.heap.size w w'):BoxP w' b p:=(y.block b (Z0p h)).trans h
theorem BoxP.cell {w:World} {b p:Nat} (h:BoxP w b p):w.cell? ⟨b,0,none⟩=some (.pointer (some ⟨p,0,none⟩)):=by
 unfold BoxP at h
 simp [World.cell?,h]
theorem Wr.lt {w:World} {F:Nat→Prop} {p:Nat} {l:List Int} (h:Wr w F p l):∀ k,F k→k<w.heap.size:=by
 obtain ⟨_,_,_,_,_,h5⟩:=h;exact h5
def Z7D (a:At):Prop:=0≤a.key∧a.key≤9223372036854775807∧okV a.v
def Z7E (c:Ch):Prop:=0≤c.key∧c.key≤9223372036854775807∧okV c.v
theorem Y48 (p pb:Nat) (F:Nat→Prop) (l:List Int) (key k n f:Int) (s:ByteArray) (w:World) (hv:Z7D ⟨key,⟨k,n,f,s⟩⟩) (h:Wr w F p l) (hbx:BoxP w pb p) (hpb:¬ F pb) (hb:l.length+(wAt ⟨key,⟨k,n,f,s⟩⟩).length≤800000000) :
 Calls Tryz.prog 258 #[.agg #[.int .i64 key,.int .u8 k,.int .i64 n,.int .u64 f,.string s],.pointer (some ⟨pb,0,none⟩)] w (OutW (l++wAt ⟨key,⟨k,n,f,s⟩⟩) w F p):=by
 obtain ⟨v1,v2,v3⟩:=hv
 simp only at v1 v2 v3
 obtain ⟨kn,hkn⟩:∃ kn:Nat,key=(kn:Int):=⟨key.toNat,by omega⟩
 subst hkn
 have h5:=h.lt
 have y1:=Z0b w (.cells #[.int .i64 (kn:Int),.int .u8 k,.int .i64 n,.int .u64 f,.string s] 108)
 have HB:=hid (heap_alloc_new w (.cells #[.int .i64 (kn:Int),.int .u8 k,.int .i64 n,.int .u64 f,.string s] 108))
 have HW:=hid (h.below y1)
 have HBX:=hid (hbx.below y1)
 have cb:=HBX.out.cell
 have G1:Hid (Grow w F (w.alloc (.cells #[.int .i64 (kn:Int),.int .u8 k,.int .i64 n,.int .u64 f,.string s] 108)) F):=hid (Grow.of y1)
 have HNF:Hid (¬ F w.heap.size):=hid (fun hf=>by have:=h5 _ hf;omega)
 have HLT:Hid (w.heap.size<(w.alloc (.cells #[.int .i64 (kn:Int),.int .u8 k,.int .i64 n,.int .u64 f,.string s] 108)).heap.size):=hid (by simp)
 have HPB:=hid hpb
 have V3:=hid v3
 have hwk:IntKind.u64.wrap (kn:Int)=(kn:Int):=IntWalk.u64_in _ (by omega)
 obtain ⟨R,hR⟩:∃ X,wAt ⟨(kn:Int),⟨k,n,f,s⟩⟩=X:=⟨_,rfl⟩
 rw [hR] at hb
 rw [hR]
 have HR:Hid (uv kn++wV ⟨k,n,f,s⟩=R):=hid (by rw [←hR,wAt];simp)
 have hb2:(l++uv kn).length+(wV ⟨k,n,f,s⟩).length≤800000000:=by
  have:=congrArg List.length HR.out
  rw [List.length_append] at this
  rw [List.length_append]
  omega
 have HB2:=hid hb2
 clear hR h h5 y1 hbx hpb v3 hb2
 go_enter Tryz.func258,Tryz.ntmps258
 go_wp2_with (go_at_call 169;refine Hid.out ?_)
 refine hid ?_
 refine (Z0B p kn F l _ (by omega) HW.out (by omega)).mono ?_
 rintro e w2 ⟨rfl,F2,HW2,HG2⟩
 have HBb:=hid ((HG2.block _ HLT.out HNF.out).trans HB.out)
 obtain ⟨t0,t1,t2,t3,t4⟩:=Z0x HBb.out
 have cb2:=(HBX.out.grow HG2 HPB.out).cell
 have W2:=hid HW2
 have G2:=hid (G1.out.trans HG2)
 clear HW2 HG2 cb
 go_wp2_with (go_at_call 255;refine Hid.out ?_)
 refine hid ?_
 refine (Z61 p F2 _ k n f s _ V3.out W2.out HB2.out).mono ?_
 rintro e w3 ⟨rfl,F3,W3,G3⟩
 go_wp2_with (fail)
 refine bodyPost_ret (results_none rfl _ _ _) rfl ?_
 exact ⟨rfl,F3,by rw [←HR.out,←List.append_assoc];exact W3,G2.out.trans G3⟩
--PRINTED BEHIND THIS
theorem Y1J (p pb:Nat) (F:Nat→Prop) (l:List Int) (key k n f:Int) (g:Bool) (s:ByteArray) (w:World) (hv:Z7E ⟨key,g,⟨k,n,f,s⟩⟩) (h:Wr w F p l) (hbx:BoxP w pb p) (hpb:¬ F pb) (hb:l.length+(wCh ⟨key,g,⟨k,n,f,s⟩⟩).length≤800000000) :
 Calls Tryz.prog 254 #[.agg #[.int .i64 key,.bool g,.int .u8 k,.int .i64 n,.int .u64 f,.string s],.pointer (some ⟨pb,0,none⟩)] w (OutW (l++wCh ⟨key,g,⟨k,n,f,s⟩⟩) w F p):=by
 obtain ⟨v1,v2,v3⟩:=hv
 simp only at v1 v2 v3
 obtain ⟨kn,hkn⟩:∃ kn:Nat,key=(kn:Int):=⟨key.toNat,by omega⟩
 subst hkn
 have h5:=h.lt
 have y1:=Z0b w (.cells #[.int .i64 (kn:Int),.bool g,.int .u8 k,.int .i64 n,.int .u64 f,.string s] 75)
 have HB:=hid (heap_alloc_new w (.cells #[.int .i64 (kn:Int),.bool g,.int .u8 k,.int .i64 n,.int .u64 f,.string s] 75))
 have HW:=hid (h.below y1)
 have HBX:=hid (hbx.below y1)
 have cb:=HBX.out.cell
 have G1:Hid (Grow w F (w.alloc (.cells #[.int .i64 (kn:Int),.bool g,.int .u8 k,.int .i64 n,.int .u64 f,.string s] 75)) F):=hid (Grow.of y1)
 have HNF:Hid (¬ F w.heap.size):=hid (fun hf=>by have:=h5 _ hf;omega)
 have HLT:Hid (w.heap.size<(w.alloc (.cells #[.int .i64 (kn:Int),.bool g,.int .u8 k,.int .i64 n,.int .u64 f,.string s] 75)).heap.size):=hid (by simp)
 have HPB:=hid hpb
 have V3:=hid v3
 have hwk:IntKind.u64.wrap (kn:Int)=(kn:Int):=IntWalk.u64_in _ (by omega)
 obtain ⟨R,hR⟩:∃ X,wCh ⟨(kn:Int),g,⟨k,n,f,s⟩⟩=X:=⟨_,rfl⟩
 rw [hR] at hb
 rw [hR]
 have HR:Hid (uv kn++(if g=true then uv 0 else wV ⟨k,n,f,s⟩)=R):=hid (by rw [←hR,wCh];simp)
 have HB2:Hid ((l++uv kn).length+(if g=true then uv 0 else wV ⟨k,n,f,s⟩).length≤800000000):=hid (by
  have:=congrArg List.length HR.out
  rw [List.length_append] at this
  rw [List.length_append]
  omega)
 clear hR h h5 y1 hbx hpb v3
 cases g
 ·rw [if_neg (by simp)] at HB2 HR
  go_enter Tryz.func254,Tryz.ntmps254
  go_wp2_with (go_at_call 169;refine Hid.out ?_)
  refine hid ?_
  refine (Z0B p kn F l _ (by omega) HW.out (by omega)).mono ?_
  rintro e w2 ⟨rfl,F2,HW2,HG2⟩
  have HBb:=hid ((HG2.block _ HLT.out HNF.out).trans HB.out)
  obtain ⟨t0,t1,t2,t3,t4,t5⟩:=Z4a HBb.out
  have cb2:=(HBX.out.grow HG2 HPB.out).cell
  have W2:=hid HW2
  have G2:=hid (G1.out.trans HG2)
  clear HW2 HG2 cb
  go_wp2_with (go_at_call 255;refine Hid.out ?_)
  refine hid ?_
  refine (Z61 p F2 _ k n f s _ V3.out W2.out HB2.out).mono ?_
  rintro e w3 ⟨rfl,F3,W3,G3⟩
  go_wp2_with (fail)
  refine bodyPost_ret (results_none rfl _ _ _) rfl ?_
  exact ⟨rfl,F3,by rw [←HR.out,←List.append_assoc];exact W3,G2.out.trans G3⟩
 ·rw [if_pos (by simp)] at HB2 HR
  go_enter Tryz.func254,Tryz.ntmps254
  go_wp2_with (go_at_call 169;refine Hid.out ?_)
  refine hid ?_
  refine (Z0B p kn F l _ (by omega) HW.out (by omega)).mono ?_
  rintro e w2 ⟨rfl,F2,HW2,HG2⟩
  have HBb:=hid ((HG2.block _ HLT.out HNF.out).trans HB.out)
  obtain ⟨t0,t1,t2,t3,t4,t5⟩:=Z4a HBb.out
  have cb2:=(HBX.out.grow HG2 HPB.out).cell
  have W2:=hid HW2
  have G2:=hid (G1.out.trans HG2)
  clear HW2 HG2 cb
  go_wp2_with (go_at_call 169;refine Hid.out ?_)
  refine hid ?_
  refine (Z0B p 0 F2 _ _ (by omega) W2.out (by have:=HB2.out;omega)).mono ?_
  rintro e w3 ⟨rfl,F3,W3,G3⟩
  go_wp2_with (fail)
  refine bodyPost_ret (results_none rfl _ _ _) rfl ?_
  exact ⟨rfl,F3,by rw [←HR.out,←List.append_assoc];exact W3,G2.out.trans G3⟩
theorem Y1K (p pb:Nat) (F:Nat→Prop) (l:List Int) (A:Option Addr) (n c:Nat) (s:List At) (w:World) (hn:n=s.length) (hs:RdAt w w.heap.size A s) (hS:OffF F A n) (hok:∀ a∈s,Z7D a) (h:Wr w F p l) (hbx:BoxP w pb p) (hpb:¬ F pb) (hb:l.length+(wL wAt s).length≤800000000) (hb2:n≤100000000) :
 Calls Tryz.prog 257 #[.pointer (some ⟨p,0,none⟩),.slice A n c,.func (.func 258) #[] #[.pointer (some ⟨pb,0,none⟩)]] w (OutW (l++wL wAt s) w F p):=by
 have N:=hid hn
 have HS:=hid hs
 have HSF:=hid hS
 have HBX:=hid hbx
 have HPB:=hid hpb
 have OK:=hid hok
 have hwn:IntKind.u64.wrap (n:Int)=(n:Int):=IntWalk.u64_in _ (by omega)
 obtain ⟨R,hR⟩:∃ X,wL wAt s=X:=⟨_,rfl⟩
 rw [hR] at hb
 rw [hR]
 have HR:Hid (uv n++s.flatMap wAt=R):=hid (by rw [←hR,wL,←N.out])
 have HL:Hid ((uv n).length+(s.flatMap wAt).length=R.length):=hid (by rw [←HR.out,List.length_append])
 clear hR hn hs hS hbx hpb hok
 go_enter Tryz.func257,Tryz.ntmps257
 go_wp2_with (go_at_call 169;refine Hid.out ?_)
 refine hid ?_
 refine (Z0B p n F l _ (by omega) h (by omega)).mono ?_
 rintro e w1 ⟨rfl,F1,W1,G1⟩
 have HW1:=hid W1
 have HG1:=hid G1
 clear W1 G1 h
 go_wp2_with (fail)
 go_loopg [15] n (fun g iv wr => ∃ (k:Nat) (Fk:Nat→Prop) (wk:World),k≤n∧g=n-k∧iv=.int .i64 (k:Int)∧wk=wr∧Hid (Wr wk Fk p (l++uv n++(s.take k).flatMap wAt))∧Hid (Grow w F wk Fk))
 case atStart=>exact ⟨0,F1,w1,by omega,rfl,rfl,rfl,hid (by simpa using HW1.out),HG1⟩
 case round=>
  obtain ⟨k,Fk,wk,hk,hg,rfl,rfl,HWk,HGk⟩:=hrel
  have HG:=hid hg
  clear hg
  by_cases hlt:k<n
  ·have RK:=hid (HS.out.grow HGk.out (by rw [←N.out];exact HSF.out))
   obtain ⟨ad,a,rfl,had,hd1,hx1,hc1⟩:=RK.out.el (i:=k) (by have:=N.out;omega)
   have hmem:=OK.out a (List.mem_of_getElem? hx1)
   have HT:Hid ((s.take k).flatMap wAt++wAt a=(s.take (k+1)).flatMap wAt):=hid (by
    rw [List.take_add_one,hx1,List.flatMap_append]
    simp)
   have HTL:Hid (((s.take (k+1)).flatMap wAt).length≤(s.flatMap wAt).length):=hid (by
    conv=>rhs;rw [←List.take_append_drop (k+1) s]
    rw [List.flatMap_append,List.length_append]
    omega)
   obtain ⟨key,⟨vk,vn,vf,vs⟩⟩:=a
   obtain ⟨r0,r1,r2,r3,r4⟩:=Z0P hc1
   have HOK:=hid hmem
   have y1:=Z0b wk (.cells #[.int .i64 key,.int .u8 vk,.int .i64 vn,.int .u64 vf,.string vs] 108)
   have WK2:=hid (HWk.out.below y1)
   have BX2:=hid ((HBX.out.grow HGk.out HPB.out).below y1)
   have PB2:Hid (¬ Fk pb):=hid (HGk.out.out (Z0p HBX.out) HPB.out)
   have GK2:Hid (Grow w F (wk.alloc (.cells #[.int .i64 key,.int .u8 vk,.int .i64 vn,.int .u64 vf,.string vs] 108)) Fk):=hid (HGk.out.trans (Grow.of y1))
   have HBB:Hid ((l++uv n++(s.take k).flatMap wAt).length+(wAt ⟨key,⟨vk,vn,vf,vs⟩⟩).length≤800000000):=hid (by
    have h1:=congrArg List.length HT.out
    have h2:=HTL.out
    have h3:=HL.out
    rw [List.length_append] at h1
    rw [List.length_append,List.length_append]
    omega)
   clear hd1 hx1 hc1 hmem y1
   go_wp2_with (go_at_call 258;refine Hid.out ?_)
   refine hid ?_
   refine (Y48 p pb Fk _ key vk vn vf vs _ HOK.out WK2.out BX2.out PB2.out HBB.out).mono ?_
   rintro e w3 ⟨rfl,F3,W3,G3⟩
   have HW3:Hid (Wr w3 F3 p (l++uv n++(s.take (k+1)).flatMap wAt)):=hid (by rw [←HT.out,←List.append_assoc];exact W3)
   have HG3:=hid (GK2.out.trans G3)
   clear W3 G3
   go_wp2_with (fail)
   go_roundg (n-(k+1))
   case measure=>have:=HG.out;omega
   case rel=>exact ⟨k+1,F3,w3,by omega,rfl,by go_num,rfl,HW3,HG3⟩
  ·have HE:Hid (l++uv n++(s.take k).flatMap wAt=l++R):=hid (by rw [List.take_of_length_le (by have:=N.out;omega),List.append_assoc,HR.out])
   go_wp2_with (fail)
   refine bodyPost_ret (results_none rfl _ _ _) rfl ?_
   exact ⟨rfl,Fk,by rw [←HE.out];exact HWk.out,HGk.out⟩
theorem Y49 (p:Nat) (F:Nat→Prop) (l:List Int) (A:Option Addr) (n c:Nat) (s:List At) (w:World) (hn:n=s.length) (hs:RdAt w w.heap.size A s) (hS:OffF F A n) (hok:∀ a∈s,Z7D a) (h:Wr w F p l) (hb:l.length+(wL wAt s).length≤800000000) (hb2:n≤100000000) :
 Calls Tryz.prog 173 #[.pointer (some ⟨p,0,none⟩),.slice A n c] w (OutW (l++wL wAt s) w F p):=by
 have h5:=h.lt
 have y1:=Z0b w (.cells #[.pointer (some ⟨p,0,none⟩)] 139)
 have HBX:Hid (BoxP (w.alloc (.cells #[.pointer (some ⟨p,0,none⟩)] 139)) w.heap.size p):=hid (heap_alloc_new w (.cells #[.pointer (some ⟨p,0,none⟩)] 139))
 have cb:=HBX.out.cell
 have HW:=hid (h.below y1)
 have HS:=hid (hs.ext y1)
 have HSF:=hid hS
 have HOK:=hid hok
 have HNF:Hid (¬ F w.heap.size):=hid (fun hf=>by have:=h5 _ hf;omega)
 have G1:Hid (Grow w F (w.alloc (.cells #[.pointer (some ⟨p,0,none⟩)] 139)) F):=hid (Grow.of y1)
 have N:=hid hn
 have HB:=hid hb
 obtain ⟨R,hR⟩:∃ X,wL wAt s=X:=⟨_,rfl⟩
 have HR:=hid hR
 rw [hR]
 clear hR h h5 y1 hs hS hok hn hb
 go_enter Tryz.func173,Tryz.ntmps173
 go_wp2_with (go_at_call 257;refine Hid.out ?_)
 refine hid ?_
 refine (Y1K p w.heap.size F l A n c s _ N.out HS.out HSF.out HOK.out HW.out HBX.out HNF.out HB.out hb2).mono ?_
 rintro e w3 ⟨rfl,F3,W3,G3⟩
 go_wp2_with (fail)
 refine bodyPost_ret (results_none rfl _ _ _) rfl ?_
 exact ⟨rfl,F3,by rw [←HR.out];exact W3,G1.out.trans G3⟩
theorem Y1L (p pb:Nat) (F:Nat→Prop) (l:List Int) (A:Option Addr) (n c:Nat) (s:List Ch) (w:World) (hn:n=s.length) (hs:RdCh w w.heap.size A s) (hS:OffF F A n) (hok:∀ a∈s,Z7E a) (h:Wr w F p l) (hbx:BoxP w pb p) (hpb:¬ F pb) (hb:l.length+(wL wCh s).length≤800000000) (hb2:n≤100000000) :
 Calls Tryz.prog 253 #[.pointer (some ⟨p,0,none⟩),.slice A n c,.func (.func 254) #[] #[.pointer (some ⟨pb,0,none⟩)]] w (OutW (l++wL wCh s) w F p):=by
 have N:=hid hn
 have HS:=hid hs
 have HSF:=hid hS
 have HBX:=hid hbx
 have HPB:=hid hpb
 have OK:=hid hok
 have hwn:IntKind.u64.wrap (n:Int)=(n:Int):=IntWalk.u64_in _ (by omega)
 obtain ⟨R,hR⟩:∃ X,wL wCh s=X:=⟨_,rfl⟩
 rw [hR] at hb
 rw [hR]
 have HR:Hid (uv n++s.flatMap wCh=R):=hid (by rw [←hR,wL,←N.out])
 have HL:Hid ((uv n).length+(s.flatMap wCh).length=R.length):=hid (by rw [←HR.out,List.length_append])
 clear hR hn hs hS hbx hpb hok
 go_enter Tryz.func253,Tryz.ntmps253
 go_wp2_with (go_at_call 169;refine Hid.out ?_)
 refine hid ?_
 refine (Z0B p n F l _ (by omega) h (by omega)).mono ?_
 rintro e w1 ⟨rfl,F1,W1,G1⟩
 have HW1:=hid W1
 have HG1:=hid G1
 clear W1 G1 h
 go_wp2_with (fail)
 go_loopg [15] n (fun g iv wr => ∃ (k:Nat) (Fk:Nat→Prop) (wk:World),k≤n∧g=n-k∧iv=.int .i64 (k:Int)∧wk=wr∧Hid (Wr wk Fk p (l++uv n++(s.take k).flatMap wCh))∧Hid (Grow w F wk Fk))
 case atStart=>exact ⟨0,F1,w1,by omega,rfl,rfl,rfl,hid (by simpa using HW1.out),HG1⟩
 case round=>
  obtain ⟨k,Fk,wk,hk,hg,rfl,rfl,HWk,HGk⟩:=hrel
  have HG:=hid hg
  clear hg
  by_cases hlt:k<n
  ·have RK:=hid (HS.out.grow HGk.out (by rw [←N.out];exact HSF.out))
   obtain ⟨ad,a,rfl,had,hd1,hx1,hc1⟩:=RK.out.el (i:=k) (by have:=N.out;omega)
   have hmem:=OK.out a (List.mem_of_getElem? hx1)
   have HT:Hid ((s.take k).flatMap wCh++wCh a=(s.take (k+1)).flatMap wCh):=hid (by
    rw [List.take_add_one,hx1,List.flatMap_append]
    simp)
   have HTL:Hid (((s.take (k+1)).flatMap wCh).length≤(s.flatMap wCh).length):=hid (by
    conv=>rhs;rw [←List.take_append_drop (k+1) s]
    rw [List.flatMap_append,List.length_append]
    omega)
   obtain ⟨key,gn,⟨vk,vn,vf,vs⟩⟩:=a
   obtain ⟨r0,r1,r2,r3,r4,r5⟩:=Z0I hc1
   have HOK:=hid hmem
   have y1:=Z0b wk (.cells #[.int .i64 key,.bool gn,.int .u8 vk,.int .i64 vn,.int .u64 vf,.string vs] 75)
   have WK2:=hid (HWk.out.below y1)
   have BX2:=hid ((HBX.out.grow HGk.out HPB.out).below y1)
   have PB2:Hid (¬ Fk pb):=hid (HGk.out.out (Z0p HBX.out) HPB.out)
   have GK2:Hid (Grow w F (wk.alloc (.cells #[.int .i64 key,.bool gn,.int .u8 vk,.int .i64 vn,.int .u64 vf,.string vs] 75)) Fk):=hid (HGk.out.trans (Grow.of y1))
   have HBB:Hid ((l++uv n++(s.take k).flatMap wCh).length+(wCh ⟨key,gn,⟨vk,vn,vf,vs⟩⟩).length≤800000000):=hid (by
    have h1:=congrArg List.length HT.out
    have h2:=HTL.out
    have h3:=HL.out
    rw [List.length_append] at h1
    rw [List.length_append,List.length_append]
    omega)
   clear hd1 hx1 hc1 hmem y1
   go_wp2_with (go_at_call 254;refine Hid.out ?_)
   refine hid ?_
   refine (Y1J p pb Fk _ key vk vn vf gn vs _ HOK.out WK2.out BX2.out PB2.out HBB.out).mono ?_
   rintro e w3 ⟨rfl,F3,W3,G3⟩
   have HW3:Hid (Wr w3 F3 p (l++uv n++(s.take (k+1)).flatMap wCh)):=hid (by rw [←HT.out,←List.append_assoc];exact W3)
   have HG3:=hid (GK2.out.trans G3)
   clear W3 G3
   go_wp2_with (fail)
   go_roundg (n-(k+1))
   case measure=>have:=HG.out;omega
   case rel=>exact ⟨k+1,F3,w3,by omega,rfl,by go_num,rfl,HW3,HG3⟩
  ·have HE:Hid (l++uv n++(s.take k).flatMap wCh=l++R):=hid (by rw [List.take_of_length_le (by have:=N.out;omega),List.append_assoc,HR.out])
   go_wp2_with (fail)
   refine bodyPost_ret (results_none rfl _ _ _) rfl ?_
   exact ⟨rfl,Fk,by rw [←HE.out];exact HWk.out,HGk.out⟩
theorem Y1M (p:Nat) (F:Nat→Prop) (l:List Int) (A:Option Addr) (n c:Nat) (s:List Ch) (w:World) (hn:n=s.length) (hs:RdCh w w.heap.size A s) (hS:OffF F A n) (hok:∀ a∈s,Z7E a) (h:Wr w F p l) (hb:l.length+(wL wCh s).length≤800000000) (hb2:n≤100000000) :
 Calls Tryz.prog 170 #[.pointer (some ⟨p,0,none⟩),.slice A n c] w (OutW (l++wL wCh s) w F p):=by
 have h5:=h.lt
 have y1:=Z0b w (.cells #[.pointer (some ⟨p,0,none⟩)] 139)
 have HBX:Hid (BoxP (w.alloc (.cells #[.pointer (some ⟨p,0,none⟩)] 139)) w.heap.size p):=hid (heap_alloc_new w (.cells #[.pointer (some ⟨p,0,none⟩)] 139))
 have cb:=HBX.out.cell
 have HW:=hid (h.below y1)
 have HS:=hid (hs.ext y1)
 have HSF:=hid hS
 have HOK:=hid hok
 have HNF:Hid (¬ F w.heap.size):=hid (fun hf=>by have:=h5 _ hf;omega)
 have G1:Hid (Grow w F (w.alloc (.cells #[.pointer (some ⟨p,0,none⟩)] 139)) F):=hid (Grow.of y1)
 have N:=hid hn
 have HB:=hid hb
 obtain ⟨R,hR⟩:∃ X,wL wCh s=X:=⟨_,rfl⟩
 have HR:=hid hR
 rw [hR]
 clear hR h h5 y1 hs hS hok hn hb
 go_enter Tryz.func170,Tryz.ntmps170
 go_wp2_with (go_at_call 253;refine Hid.out ?_)
 refine hid ?_
 refine (Y1L p w.heap.size F l A n c s _ N.out HS.out HSF.out HOK.out HW.out HBX.out HNF.out HB.out hb2).mono ?_
 rintro e w3 ⟨rfl,F3,W3,G3⟩
 go_wp2_with (fail)
 refine bodyPost_ret (results_none rfl _ _ _) rfl ?_
 exact ⟨rfl,F3,by rw [←HR.out];exact W3,G1.out.trans G3⟩
theorem Tryz.unAtC:Tryz.prog.underlying 108=some (.struct (Tryz.prog.fieldsOf 108)):=by kernel_rfl
theorem Tryz.szAtC:(Tryz.prog.info? 108).map (·.size)=some 5:=by kernel_rfl
theorem Tryz.unChC:Tryz.prog.underlying 75=some (.struct (Tryz.prog.fieldsOf 75)):=by kernel_rfl
theorem Tryz.szChC:(Tryz.prog.info? 75).map (·.size)=some 6:=by kernel_rfl
theorem Z2K {w:World} {b:Nat} {c0 c1 c2 c3 c4:Value} {t:TypeId} (h:w.heap[b]? = some (.cells #[c0,c1,c2,c3,c4] t (0,0))) (u0 u1 u2 u3 u4:Value) :
 (((((w.setCell ⟨b,0,none⟩ u0).setCell ⟨b,1,none⟩ u1).setCell ⟨b,2,none⟩ u2).setCell ⟨b,3,none⟩ u3).setCell ⟨b,4,none⟩ u4).heap[b]? = some (.cells #[u0,u1,u2,u3,u4] t (0,0)):=by
 have h0:=Z0d (j:=0) h u0
 have h1:=Z0d (j:=1) h0 u1
 have h2:=Z0d (j:=2) h1 u2
 have h3:=Z0d (j:=3) h2 u3
 have h4:=Z0d (j:=4) h3 u4
 simpa using h4
theorem Z8s {w:World} {b:Nat} {c0 c1 c2 c3 c4 c5:Value} {t:TypeId} (h:w.heap[b]? = some (.cells #[c0,c1,c2,c3,c4,c5] t (0,0))) (u0 u1 u2 u3 u4 u5:Value) :
 ((((((w.setCell ⟨b,0,none⟩ u0).setCell ⟨b,1,none⟩ u1).setCell ⟨b,2,none⟩ u2).setCell ⟨b,3,none⟩ u3).setCell ⟨b,4,none⟩ u4).setCell ⟨b,5,none⟩ u5).heap[b]? = some (.cells #[u0,u1,u2,u3,u4,u5] t (0,0)):=by
 have h0:=Z0d (j:=0) h u0
 have h1:=Z0d (j:=1) h0 u1
 have h2:=Z0d (j:=2) h1 u2
 have h3:=Z0d (j:=3) h2 u3
 have h4:=Z0d (j:=4) h3 u4
 have h5:=Z0d (j:=5) h4 u5
 simpa using h5
def OkAtR (a:At) (x:Value) (_:World):Prop:=x=a.val∧Z7D a∧a.v.s.size≤100000000
def OkChR (a:Ch) (x:Value) (_:World):Prop:=x=a.val∧Z7E a∧a.v.s.size≤100000000
def pAt1 (n a1:Nat):PF At:=fun x=>(pU 255 x).bind fun y=>(pV n y.1 y.2).map fun z=>(⟨a1,z.1⟩,z.2)
def pAt2 (n a1 a2:Nat):PF At:=fun x=>(pV n a2 x).map fun z=>(⟨a1,z.1⟩,z.2)
def pCh1 (n a1:Nat):PF Ch:=fun x=>(pU 255 x).bind fun y=>if y.1=0 then some (⟨a1,true,⟨0,0,0,⟨#[]⟩⟩⟩,y.2) else (pV n y.1 y.2).map fun z=>(⟨a1,false,z.1⟩,z.2)
def pCh2 (n a1 a2:Nat):PF Ch:=fun x=>if a2=0 then some (⟨a1,true,⟨0,0,0,⟨#[]⟩⟩⟩,x) else (pV n a2 x).map fun z=>(⟨a1,false,z.1⟩,z.2)
theorem Z51 {α:Type} (p:PF α):∀ (j:Nat) (x:List Int),many p (j+1) x=(many p j x).bind fun z=>(p z.2).map fun y=>(z.1++[y.1],y.2)
 | 0,x=>by
   simp only [many,Option.bind_some,List.nil_append]
   cases p x<;>rfl
 | j+1,x=>by
   rw [many]
   cases h:p x with
   | none=>rw [many,h];rfl
   | some z=>
     simp only [Option.bind_some]
     rw [Z51 p j z.2,many,h]
     simp only [Option.bind_some]
     cases many p j z.2 with
     | none=>rfl
     | some y=>
       simp only [Option.map_some,Option.bind_some]
       cases p y.2<;>simp
theorem Z8t {α:Type} {p:PF α} {x:List Int} {j:Nat} (h:many p j x=none):∀ d:Nat,many p (j+d) x=none
 | 0=>h
 | d+1=>by rw [←Nat.add_assoc,Z51,Z8t h d];rfl
theorem Took.snoc {α:Type} {p:PF α} {b:List Int} {j k k1 k2:Nat} {l:List α} {a:α} {bad bad1 bad2:Bool} (h1:Took (many p j) b k bad l k1 bad1) (h2:Took p b k1 bad1 a k2 bad2):Took (many p (j+1)) b k bad (l++[a]) k2 bad2:=
 (h1.bind (Q:=fun l=>fun x=>(p x).map fun y=>(l++[y.1],y.2)) (h2.map (f:=fun a=>l++[a]))).of_eq fun x=>(Z51 p j x).symm
theorem Took.manyBad {α:Type} {p:PF α} {b:List Int} {j n0 k k1:Nat} {l l2:List α} {bad:Bool} (h:Took (many p j) b k bad l k1 true) (hj:j≤n0):Took (many p n0) b k bad l2 k1 true:=by
 obtain ⟨d,rfl⟩:∃ d,n0=j+d:=⟨n0-j,by omega⟩
 unfold Took at h ⊢
 cases bad with
 | true=>simp
 | false=>
   simp only [Bool.false_eq_true,if_false] at h ⊢
   cases hp:many p j (b.drop k) with
   | none=>rw [Z8t hp];trivial
   | some z=>
     rw [hp] at h
     obtain ⟨_,h2,_⟩:=h
     cases h2
theorem Y3a (pr:Nat) (A:Option Addr) (n c:Nat) (b:List Int) (k:Nat) (bad:Bool) (w:World) (h:RS w pr A n c b k bad) :
 Calls Tryz.prog 167 #[.pointer (some ⟨pr,0,none⟩)] w (OutR (pAt n) OkAtR w pr A n c b k bad):=by
 have hpl:=Z0p h.box
 have y1:=Z0b w (.cells #[.int .i64 0,.int .u8 0,.int .i64 0,.int .u64 0,.string ⟨#[]⟩] 108)
 have HB:=hid (heap_alloc_new w (.cells #[.int .i64 0,.int .u8 0,.int .i64 0,.int .u64 0,.string ⟨#[]⟩] 108))
 have H:=hid (h.below y1)
 have G1:Hid (GR pr w (w.alloc (.cells #[.int .i64 0,.int .u8 0,.int .i64 0,.int .u64 0,.string ⟨#[]⟩] 108))):=hid (Grow.of y1)
 have hsm:=h.small
 have hne:¬ w.heap.size=pr:=by omega
 have HNE:=hid hne
 clear y1 h hne
 go_enter Tryz.func167,Tryz.ntmps167
 go_wp2_with (go_at_call 249;refine Hid.out ?_)
 refine hid ?_
 refine (Y0P pr A n c b k bad _ H.out).mono ?_
 rintro e w2 ⟨a1,x,k2,bad2,rfl,⟨rfl,ha1⟩,hs2,hg2,ht2⟩
 have T2:=hid ht2
 have S2:=hid hs2
 have G2:Hid (GR pr w w2):=hid (GR.trans1 G1.out hg2)
 have HB2:=hid ((hg2.block w.heap.size (by simp) HNE.out).trans HB.out)
 clear ht2 hs2 hg2
 go_wp2_with (go_at_call 161;refine Hid.out ?_)
 refine hid ?_
 refine (Z12 pr 255 A n c b k2 bad2 _ (by decide) S2.out).mono ?_
 rintro e w3 ⟨a2,x,k3,bad3,rfl,⟨rfl,ha2⟩,hs3,hg3,ht3⟩
 have T3:=hid ht3
 have S3:=hid hs3
 have G3:Hid (GR pr w w3):=hid (GR.trans1 G2.out hg3)
 have HB3:=hid ((hg3.block w.heap.size (Z0p HB2.out) HNE.out).trans HB2.out)
 clear ht3 hs3 hg3
 have hw8:IntKind.u8.wrap (a2:Int)=(a2:Int):=IntWalk.u8_in _ (by omega)
 go_wp2_with (go_at_call 250;refine Hid.out ?_)
 refine hid ?_
 refine (Z60 pr a2 A n c b k3 bad3 _ (by omega) S3.out).mono ?_
 rintro e w4 ⟨⟨vk,vn,vf,vs⟩,x,k4,bad4,rfl,⟨rfl,hok,hsz⟩,hs4,hg4,ht4⟩
 unfold V.val
 have T4:=hid ht4
 have S4:=hid hs4
 have G4:Hid (GR pr w w4):=hid (GR.trans1 G3.out hg4)
 have HB4:=hid ((hg4.block w.heap.size (Z0p HB3.out) HNE.out).trans HB3.out)
 have OK:=hid hok
 have SZ:=hid hsz
 clear ht4 hs4 hg4 hok hsz
 obtain ⟨t0,t1,t2,t3,t4⟩:=Z0x HB4.out
 have tf:=Z0y HB4.out
 simp only
 go_wp2_with (fail)
 have q1:=Z2K HB4.out (.int .i64 (a1:Int)) (.int .u8 vk) (.int .i64 vn) (.int .u64 vf) (.string vs)
 refine bodyPost_ret (results_cell_row (P:=Tryz.prog) rfl _ _ w.heap.size 108 #[.int .i64 (a1:Int),.int .u8 vk,.int .i64 vn,.int .u64 vf,.string vs] (0,0) _ rfl q1 Tryz.unAtC rfl Tryz.szAtC) rfl ?_
 exact ⟨⟨a1,⟨vk,vn,vf,vs⟩⟩,_,k4,bad4,rfl,⟨rfl,⟨by simp only;omega,by simp only;omega,OK.out⟩,SZ.out⟩,(((((S4.out.setUp hpl _ _).setUp hpl _ _).setUp hpl _ _).setUp hpl _ _).setUp hpl _ _),(((((GR.setUp G4.out (Nat.le_refl _) _ _).setUp (Nat.le_refl _) _ _).setUp (Nat.le_refl _) _ _).setUp (Nat.le_refl _) _ _).setUp (Nat.le_refl _) _ _),
  Took.bind (Q:=pAt1 n) T2.out (Took.bind (Q:=pAt2 n a1) T3.out (Took.map (f:=fun v:V=>(⟨a1,v⟩:At)) T4.out))⟩
theorem Z9J (pr:Nat) (A:Option Addr) (n c:Nat) (b:List Int) (k:Nat) (bad:Bool) (w:World) (h:RS w pr A n c b k bad) :
 Calls Tryz.prog 164 #[.pointer (some ⟨pr,0,none⟩)] w (OutR (pCh n) OkChR w pr A n c b k bad):=by
 have hpl:=Z0p h.box
 have y1:=Z0b w (.cells #[.int .i64 0,.bool false,.int .u8 0,.int .i64 0,.int .u64 0,.string ⟨#[]⟩] 75)
 have HB:=hid (heap_alloc_new w (.cells #[.int .i64 0,.bool false,.int .u8 0,.int .i64 0,.int .u64 0,.string ⟨#[]⟩] 75))
 have H:=hid (h.below y1)
 have G1:Hid (GR pr w (w.alloc (.cells #[.int .i64 0,.bool false,.int .u8 0,.int .i64 0,.int .u64 0,.string ⟨#[]⟩] 75))):=hid (Grow.of y1)
 have hsm:=h.small
 have hne:¬ w.heap.size=pr:=by omega
 have HNE:=hid hne
 clear y1 h hne
 go_enter Tryz.func164,Tryz.ntmps164
 go_wp2_with (go_at_call 249;refine Hid.out ?_)
 refine hid ?_
 refine (Y0P pr A n c b k bad _ H.out).mono ?_
 rintro e w2 ⟨a1,x,k2,bad2,rfl,⟨rfl,ha1⟩,hs2,hg2,ht2⟩
 have T2:=hid ht2
 have S2:=hid hs2
 have G2:Hid (GR pr w w2):=hid (GR.trans1 G1.out hg2)
 have HB2:=hid ((hg2.block w.heap.size (by simp) HNE.out).trans HB.out)
 clear ht2 hs2 hg2
 go_wp2_with (go_at_call 161;refine Hid.out ?_)
 refine hid ?_
 refine (Z12 pr 255 A n c b k2 bad2 _ (by decide) S2.out).mono ?_
 rintro e w3 ⟨a2,x,k3,bad3,rfl,⟨rfl,ha2⟩,hs3,hg3,ht3⟩
 have T3:=hid ht3
 have S3:=hid hs3
 have G3:Hid (GR pr w w3):=hid (GR.trans1 G2.out hg3)
 have HB3:=hid ((hg3.block w.heap.size (Z0p HB2.out) HNE.out).trans HB2.out)
 clear ht3 hs3 hg3
 have hw8:IntKind.u8.wrap (a2:Int)=(a2:Int):=IntWalk.u8_in _ (by omega)
 by_cases z0:a2=0
 ·subst z0
  have T3':Hid (Took (pCh2 n a1 0) b k3 bad3 ⟨a1,true,⟨0,0,0,⟨#[]⟩⟩⟩ k3 bad3):=hid (Z1R (by simp [pCh2]) rfl)
  obtain ⟨t0,t1,t2,t3,t4,t5⟩:=Z4a HB3.out
  have tf:=Z0y HB3.out
  go_wp2_with (fail)
  have q1:=Z8s HB3.out (.int .i64 (a1:Int)) (.bool true) (.int .u8 0) (.int .i64 0) (.int .u64 0) (.string ⟨#[]⟩)
  refine bodyPost_ret (results_cell_row (P:=Tryz.prog) rfl _ _ w.heap.size 75 #[.int .i64 (a1:Int),.bool true,.int .u8 0,.int .i64 0,.int .u64 0,.string ⟨#[]⟩] (0,0) _ rfl q1 Tryz.unChC rfl Tryz.szChC) rfl ?_
  exact ⟨⟨a1,true,⟨0,0,0,⟨#[]⟩⟩⟩,_,k3,bad3,rfl,⟨rfl,⟨by simp only;omega,by simp only;omega,by unfold okV;simp only;omega⟩,Nat.zero_le _⟩,((((((S3.out.setUp hpl _ _).setUp hpl _ _).setUp hpl _ _).setUp hpl _ _).setUp hpl _ _).setUp hpl _ _),((((((GR.setUp G3.out (Nat.le_refl _) _ _).setUp (Nat.le_refl _) _ _).setUp (Nat.le_refl _) _ _).setUp (Nat.le_refl _) _ _).setUp (Nat.le_refl _) _ _).setUp (Nat.le_refl _) _ _),
   Took.bind (Q:=pCh1 n) T2.out (Took.bind (Q:=pCh2 n a1) T3.out T3'.out)⟩
 ·have zb:((a2:Int)==0)=false:=beq_eq_false_iff_ne.2 (by omega)
  have Z0:=hid z0
  clear z0
  go_wp2_with (go_at_call 250;refine Hid.out ?_)
  refine hid ?_
  refine (Z60 pr a2 A n c b k3 bad3 _ (by omega) S3.out).mono ?_
  rintro e w4 ⟨⟨vk,vn,vf,vs⟩,x,k4,bad4,rfl,⟨rfl,hok,hsz⟩,hs4,hg4,ht4⟩
  unfold V.val
  have T4:=hid ht4
  have S4:=hid hs4
  have G4:Hid (GR pr w w4):=hid (GR.trans1 G3.out hg4)
  have HB4:=hid ((hg4.block w.heap.size (Z0p HB3.out) HNE.out).trans HB3.out)
  have OK:=hid hok
  have SZ:=hid hsz
  clear ht4 hs4 hg4 hok hsz
  obtain ⟨t0,t1,t2,t3,t4,t5⟩:=Z4a HB4.out
  have tf:=Z0y HB4.out
  simp only
  go_wp2_with (fail)
  have T4':Hid (Took (pCh2 n a1 a2) b k3 bad3 ⟨a1,false,⟨vk,vn,vf,vs⟩⟩ k4 bad4):=hid ((T4.out.map (f:=fun v:V=>(⟨a1,false,v⟩:Ch))).of_eq (fun x=>by rw [pCh2,if_neg Z0.out]))
  have q1:=Z8s HB4.out (.int .i64 (a1:Int)) (.bool false) (.int .u8 vk) (.int .i64 vn) (.int .u64 vf) (.string vs)
  refine bodyPost_ret (results_cell_row (P:=Tryz.prog) rfl _ _ w.heap.size 75 #[.int .i64 (a1:Int),.bool false,.int .u8 vk,.int .i64 vn,.int .u64 vf,.string vs] (0,0) _ rfl q1 Tryz.unChC rfl Tryz.szChC) rfl ?_
  exact ⟨⟨a1,false,⟨vk,vn,vf,vs⟩⟩,_,k4,bad4,rfl,⟨rfl,⟨by simp only;omega,by simp only;omega,OK.out⟩,SZ.out⟩,((((((S4.out.setUp hpl _ _).setUp hpl _ _).setUp hpl _ _).setUp hpl _ _).setUp hpl _ _).setUp hpl _ _),((((((GR.setUp G4.out (Nat.le_refl _) _ _).setUp (Nat.le_refl _) _ _).setUp (Nat.le_refl _) _ _).setUp (Nat.le_refl _) _ _).setUp (Nat.le_refl _) _ _).setUp (Nat.le_refl _) _ _),
   Took.bind (Q:=pCh1 n) T2.out (Took.bind (Q:=pCh2 n a1) T3.out T4'.out)⟩
theorem GR.grown {w w3 w4:World} {pr:Nat} {v:Value} {o:Obj} (g:GR pr w w3) (hg:(w3.alloc o).grownBy w4 (wb v)) (hb:∀ k,wb v=some k→w.heap.size≤k):GR pr w w4:=by
 have y:=(GR.alloc g o)
 refine ⟨hg.os.trans y.os,hg.tape.trans y.tape,hg.output.trans y.output,Nat.le_trans y.size hg.size,fun j hj hn=>?_,fun k hk=>.inl hk⟩
 rw [hg.block j (Nat.lt_of_lt_of_le hj y.size) (fun e=>by have:=hb j e.symm;omega)]
 exact y.block j hj hn
theorem RS.grown {w3 w4:World} {pr:Nat} {A:Option Addr} {n c:Nat} {b:List Int} {k:Nat} {bad:Bool} {v:Value} {o:Obj} (h:RS w3 pr A n c b k bad) (hg:(w3.alloc o).grownBy w4 (wb v)) (hb:∀ k,wb v=some k→pr<k):RS w4 pr A n c b k bad:=
 (h.below (Z0b w3 o)).keep fun j hj=>hg.block j (by have:=Z0p h.box;rw [World.size_alloc];omega) (fun e=>by have:=hb j e.symm;omega)
theorem Ow.gr {α:Type} {enc:α→List Value} {size:Nat} {e:TypeId} {w w':World} {base pr:Nat} {v:Value} {l:List α} (h:Ow enc size e w base v l) (g:GR pr w w') (hb:pr<base):Ow enc size e w' base v l:=
 h.keep fun k hk=>g.block k (h.wb_lt k hk).2 (fun e:k=pr=>by have:=(h.wb_lt k hk).1;omega)
def Y67 (B n:Nat) (l:List At) (x:Value) (w:World):Prop := ∃ A c,x=.slice A l.length c∧l.length≤n∧OwAt w B (.slice A l.length c) l∧∀ a∈l,Z7D a∧a.v.s.size≤100000000
theorem Z8u (pr:Nat) (A:Option Addr) (n c:Nat) (b:List Int) (k:Nat) (bad:Bool) (w:World) (h:RS w pr A n c b k bad) :
 Calls Tryz.prog 166 #[.pointer (some ⟨pr,0,none⟩),.func (.func 167) #[.pointer (some ⟨pr,0,none⟩)] #[]] w (OutR (sev n (pAt n)) (Y67 w.heap.size n) w pr A n c b k bad):=by
 have hpl:=Z0p h.box
 have hsm:=h.small
 have H:=hid h
 obtain ⟨r0,r1,r2⟩:=h.cells
 have hwn:IntKind.u64.wrap (n:Int)=(n:Int):=IntWalk.u64_in _ (by omega)
 clear h
 go_enter Tryz.func166,Tryz.ntmps166
 go_wp2_with (go_at_call 161;refine Hid.out ?_)
 refine hid ?_
 refine (Z12 pr n A n c b k bad _ (by omega) H.out).mono ?_
 rintro e w2 ⟨a0,x,k0,bad0,rfl,⟨rfl,ha0⟩,hs2,hg2,ht2⟩
 have T2:=hid ht2
 have S2:=hid hs2
 have G2:=hid hg2
 clear ht2 hs2 hg2 r0 r1 r2
 go_wp2_with (fail)
 go_loopg [4,5] a0 (fun g lv nv wr => ∃ (m:Nat) (l:List At) (v:Value) (w1:World) (k1:Nat) (bad1:Bool),g=m∧m+l.length=a0∧nv=.int .u64 (m:Int)∧v=lv∧w1=wr∧Hid (RS w1 pr A n c b k1 bad1)∧Hid (GR pr w w1)∧Hid (OwAt w1 w.heap.size v l)∧Hid (Took (many (pAt n) l.length) b k0 bad0 l k1 bad1)∧Hid (∀ a∈l,Z7D a∧a.v.s.size≤100000000))
 case atStart=>exact ⟨a0,[],_,w2,k0,bad0,rfl,by simp,rfl,rfl,rfl,S2,G2,hid (Ow.nil _ _),hid (Z1R rfl rfl),hid (fun a ha=>by cases ha)⟩
 case round=>
  obtain ⟨m,l,v,w1,k1,bad1,hg,hml,rfl,rfl,rfl,HS,HG,HO,HT,HK⟩:=hrel
  have GM:=hid hg
  have ML:=hid hml
  clear hg
  obtain ⟨r0,r1,r2⟩:=HS.out.cells
  obtain ⟨vA,vc,hvv,hvc,_⟩:=HO.out.form
  have HVV:=hid hvv
  clear hvv hvc
  by_cases hm:0<m
  ·cases bad1 with
   | true=>
     have HT2:Hid (Took (sev n (pAt n)) b k bad l k1 true):=hid (Took.bind (Q:=fun j=>many (pAt n) j) T2.out (HT.out.manyBad (by omega)))
     go_wp2_with (fail)
     go_ret
     exact ⟨l,_,k1,true,rfl,⟨vA,vc,HVV.out,by have:=ML.out;omega,by have h1:=HO.out;rw [HVV.out] at h1;exact h1,HK.out⟩,HS.out,HG.out,HT2.out⟩
   | false=>
     have hm1:IntKind.u64.wrap ((m:Int)-1)=((m-1:Nat):Int):=by rw [IntWalk.u64_in _ (by omega)];omega
     have hll:l.length≤100000000:=by have:=ML.out;omega
     go_wp2_with (first
      | (go_at_call 167
         refine (Y3a pr A n c b k1 false _ HS.out).mono ?_
         rintro e w3 ⟨⟨key,⟨vk,vn,vf,vs⟩⟩,x,k3,bad3,rfl,⟨rfl,hok,hsz⟩,hs3,hg3,ht3⟩
         unfold At.val
         simp only
         have T3:=hid (HT.out.snoc ht3)
         have S3:=hid hs3
         have G3:Hid (GR pr w w3):=hid (GR.trans1 HG.out hg3)
         have O3:=hid (HO.out.gr hg3 hpl)
         have OK3:=hid hok
         have SZ3:=hid hsz
         have hsz3:=hg3.size
         have hgz:w.heap.size≤w3.heap.size:=G3.out.size
         clear ht3 hs3 hg3 hok hsz)
      | (at_builtin
         refine Z5M (m:=[⟨key,⟨vk,vn,vf,vs⟩⟩]) rfl (.tmp 25) (.tmp 28) rfl rfl (O3.out.alloc _) _ _ _ _ rfl rfl (Rd.new (enc:=At.enc) (size:=5) At.enc_len w3 108 [⟨key,⟨vk,vn,vf,vs⟩⟩] (cs:=#[.int .i64 key,.int .u8 vk,.int .i64 vn,.int .u64 vf,.string vs]) rfl rfl) (by simp only [List.length_cons,List.length_nil];omega) (by rw [World.size_alloc];omega) ?_
         intro v' w4 hown' hgr hv'
         have O4:=hid hown'
         have S4:=hid (S3.out.grown hgr (fun j hj=>by have:=(O3.out.wb_lt j hj).1;omega))
         have G4:=hid (G3.out.grown hgr (fun j hj=>(O3.out.wb_lt j hj).1))
         clear hgr hv' hown'))
     go_wp2_with (fail)
     go_roundg (m-1)
     case measure=>have:=GM.out;omega
     case rel=>
      refine ⟨m-1,l++[⟨key,⟨vk,vn,vf,vs⟩⟩],_,_,k3,bad3,rfl,by have:=ML.out;simp only [List.length_append,List.length_cons,List.length_nil];omega,by first|rw [hm1]|go_num,rfl,rfl,S4,G4,O4,hid (by rw [List.length_append];exact T3.out),hid (fun a ha=>?_)⟩
      rcases List.mem_append.1 ha with ha|ha
      ·exact HK.out a ha
      ·simp only [List.mem_singleton] at ha
       subst ha
       exact ⟨OK3.out,SZ3.out⟩
  ·have HE:Hid (l.length=a0):=hid (by omega)
   have HT2:Hid (Took (sev n (pAt n)) b k bad l k1 bad1):=hid (Took.bind (Q:=fun j=>many (pAt n) j) T2.out (by have:=HT.out;rw [HE.out] at this;exact this))
   have m0:m=0:=by omega
   subst m0
   go_wp2_with (fail)
   go_ret
   exact ⟨l,_,k1,bad1,rfl,⟨vA,vc,HVV.out,by have:=HE.out;omega,by have h1:=HO.out;rw [HVV.out] at h1;exact h1,HK.out⟩,HS.out,HG.out,HT2.out⟩
def Y68 (B n:Nat) (l:List Ch) (x:Value) (w:World):Prop := ∃ A c,x=.slice A l.length c∧l.length≤n∧OwCh w B (.slice A l.length c) l∧∀ a∈l,Z7E a∧a.v.s.size≤100000000
theorem Y3b (pr:Nat) (A:Option Addr) (n c:Nat) (b:List Int) (k:Nat) (bad:Bool) (w:World) (h:RS w pr A n c b k bad) :
 Calls Tryz.prog 163 #[.pointer (some ⟨pr,0,none⟩),.func (.func 164) #[.pointer (some ⟨pr,0,none⟩)] #[]] w (OutR (sev n (pCh n)) (Y68 w.heap.size n) w pr A n c b k bad):=by
 have hpl:=Z0p h.box
 have hsm:=h.small
 have H:=hid h
 obtain ⟨r0,r1,r2⟩:=h.cells
 have hwn:IntKind.u64.wrap (n:Int)=(n:Int):=IntWalk.u64_in _ (by omega)
 clear h
 go_enter Tryz.func163,Tryz.ntmps163
 go_wp2_with (go_at_call 161;refine Hid.out ?_)
 refine hid ?_
 refine (Z12 pr n A n c b k bad _ (by omega) H.out).mono ?_
 rintro e w2 ⟨a0,x,k0,bad0,rfl,⟨rfl,ha0⟩,hs2,hg2,ht2⟩
 have T2:=hid ht2
 have S2:=hid hs2
 have G2:=hid hg2
 clear ht2 hs2 hg2 r0 r1 r2
 go_wp2_with (fail)
 go_loopg [4,5] a0 (fun g lv nv wr => ∃ (m:Nat) (l:List Ch) (v:Value) (w1:World) (k1:Nat) (bad1:Bool),g=m∧m+l.length=a0∧nv=.int .u64 (m:Int)∧v=lv∧w1=wr∧Hid (RS w1 pr A n c b k1 bad1)∧Hid (GR pr w w1)∧Hid (OwCh w1 w.heap.size v l)∧Hid (Took (many (pCh n) l.length) b k0 bad0 l k1 bad1)∧Hid (∀ a∈l,Z7E a∧a.v.s.size≤100000000))
 case atStart=>exact ⟨a0,[],_,w2,k0,bad0,rfl,by simp,rfl,rfl,rfl,S2,G2,hid (Ow.nil _ _),hid (Z1R rfl rfl),hid (fun a ha=>by cases ha)⟩
 case round=>
  obtain ⟨m,l,v,w1,k1,bad1,hg,hml,rfl,rfl,rfl,HS,HG,HO,HT,HK⟩:=hrel
  have GM:=hid hg
  have ML:=hid hml
  clear hg
  obtain ⟨r0,r1,r2⟩:=HS.out.cells
  obtain ⟨vA,vc,hvv,hvc,_⟩:=HO.out.form
  have HVV:=hid hvv
  clear hvv hvc
  by_cases hm:0<m
  ·cases bad1 with
   | true=>
     have HT2:Hid (Took (sev n (pCh n)) b k bad l k1 true):=hid (Took.bind (Q:=fun j=>many (pCh n) j) T2.out (HT.out.manyBad (by omega)))
     go_wp2_with (fail)
     go_ret
     exact ⟨l,_,k1,true,rfl,⟨vA,vc,HVV.out,by have:=ML.out;omega,by have h1:=HO.out;rw [HVV.out] at h1;exact h1,HK.out⟩,HS.out,HG.out,HT2.out⟩
   | false=>
     have hm1:IntKind.u64.wrap ((m:Int)-1)=((m-1:Nat):Int):=by rw [IntWalk.u64_in _ (by omega)];omega
     have hll:l.length≤100000000:=by have:=ML.out;omega
     go_wp2_with (first
      | (go_at_call 164
         refine (Z9J pr A n c b k1 false _ HS.out).mono ?_
         rintro e w3 ⟨⟨key,gn,⟨vk,vn,vf,vs⟩⟩,x,k3,bad3,rfl,⟨rfl,hok,hsz⟩,hs3,hg3,ht3⟩
         unfold Ch.val
         simp only
         have T3:=hid (HT.out.snoc ht3)
         have S3:=hid hs3
         have G3:Hid (GR pr w w3):=hid (GR.trans1 HG.out hg3)
         have O3:=hid (HO.out.gr hg3 hpl)
         have OK3:=hid hok
         have SZ3:=hid hsz
         have hsz3:=hg3.size
         have hgz:w.heap.size≤w3.heap.size:=G3.out.size
         clear ht3 hs3 hg3 hok hsz)
      | (at_builtin
         refine Y6v (m:=[⟨key,gn,⟨vk,vn,vf,vs⟩⟩]) rfl (.tmp 25) (.tmp 28) rfl rfl (O3.out.alloc _) _ _ _ _ rfl rfl (Rd.new (enc:=Ch.enc) (size:=6) Ch.enc_len w3 75 [⟨key,gn,⟨vk,vn,vf,vs⟩⟩] (cs:=#[.int .i64 key,.bool gn,.int .u8 vk,.int .i64 vn,.int .u64 vf,.string vs]) rfl rfl) (by simp only [List.length_cons,List.length_nil];omega) (by rw [World.size_alloc];omega) ?_
         intro v' w4 hown' hgr hv'
         have O4:=hid hown'
         have S4:=hid (S3.out.grown hgr (fun j hj=>by have:=(O3.out.wb_lt j hj).1;omega))
         have G4:=hid (G3.out.grown hgr (fun j hj=>(O3.out.wb_lt j hj).1))
         clear hgr hv' hown'))
     go_wp2_with (fail)
     go_roundg (m-1)
     case measure=>have:=GM.out;omega
     case rel=>
      refine ⟨m-1,l++[⟨key,gn,⟨vk,vn,vf,vs⟩⟩],_,_,k3,bad3,rfl,by have:=ML.out;simp only [List.length_append,List.length_cons,List.length_nil];omega,by first|rw [hm1]|go_num,rfl,rfl,S4,G4,O4,hid (by rw [List.length_append];exact T3.out),hid (fun a ha=>?_)⟩
      rcases List.mem_append.1 ha with ha|ha
      ·exact HK.out a ha
      ·simp only [List.mem_singleton] at ha
       subst ha
       exact ⟨OK3.out,SZ3.out⟩
  ·have HE:Hid (l.length=a0):=hid (by omega)
   have HT2:Hid (Took (sev n (pCh n)) b k bad l k1 bad1):=hid (Took.bind (Q:=fun j=>many (pCh n) j) T2.out (by have:=HT.out;rw [HE.out] at this;exact this))
   have m0:m=0:=by omega
   subst m0
   go_wp2_with (fail)
   go_ret
   exact ⟨l,_,k1,bad1,rfl,⟨vA,vc,HVV.out,by have:=HE.out;omega,by have h1:=HO.out;rw [HVV.out] at h1;exact h1,HK.out⟩,HS.out,HG.out,HT2.out⟩
def osOf (x:List OpS):List Opd:=x.map (·.o)
structure Cl where
 r:Int
 s:List At
deriving DecidableEq
structure ClS where
 c:Cl
 As:Option Addr
 cs:Nat
def ClS.enc (x:ClS):List Value:=[.int .i32 x.c.r,.slice x.As x.c.s.length x.cs]
theorem ClS.enc_len (x:ClS):x.enc.length=2:=rfl
theorem ClS.enc_one (x:ClS):∀ u∈x.enc,u.oneCell'=true:=by intro u hu;simp [ClS.enc] at hu;rcases hu with rfl|rfl<;>rfl
abbrev RdCs:=@Rd ClS ClS.enc 2
def SubC (w:World) (B:Nat) (l:List ClS):Prop := ∀ x∈l,RdAt w B x.As x.c.s
def RdCl (w:World) (B:Nat) (A:Option Addr) (l:List ClS):Prop:=RdCs w B A l∧SubC w B l
theorem SubC.ext {w w':World} {l:List ClS} (h:SubC w w.heap.size l) (y:Below w.heap.size w w'):SubC w' w'.heap.size l:=fun x hx=>(h x hx).ext y
theorem RdCl.ext {w w':World} {A:Option Addr} {l:List ClS} (h:RdCl w w.heap.size A l) (y:Below w.heap.size w w'):RdCl w' w'.heap.size A l:=⟨h.1.ext y,h.2.ext y⟩
theorem Z1E {w:World} {p:Addr} {r s:Value} (h:CellsAt w p [r,s]):w.cell? p=some r∧w.cell? { block:=p.block,off:=p.off+1 }=some s:=by
 have h0:=h 0 _ rfl
 rw [Z0n] at h0
 exact ⟨h0,Z0s h 0 rfl⟩
theorem Z52 {w:World} {b:Nat} {t:TypeId} {c0 c1:Value} (h:w.heap[b]? = some (.cells #[c0,c1] t (0,0))):w.cell? ⟨b,0,none⟩=some c0∧w.cell? ⟨b,1,none⟩=some c1:=by
 simp [World.cell?,h]
def put1 (c:Ch):List At:=if c.gone then [] else [⟨c.key,c.v⟩]
def Z3g (k:Int):List At→List At
 | []=>[]
 | a::s=>if a.key=k then s else a::s
def Z1i:List Ch→List At→List At
 | [],s=>s
 | c::p,s=>s.takeWhile (fun a=>decide (a.key<c.key))++(put1 c++Z1i p (Z3g c.key (s.dropWhile (fun a=>decide (a.key<c.key)))))
def Z2c (c:Ch) (p:List Ch) (s:List At):List At:=
 s.takeWhile (fun a=>decide (a.key<c.key))++(put1 c++Z1i p (Z3g c.key (s.dropWhile (fun a=>decide (a.key<c.key)))))
theorem Z8v (c:Ch) (p:List Ch) (a:At) (s:List At) (h:a.key<c.key):Z2c c p (a::s)=a::Z2c c p s:=by
 simp [Z2c,h]
theorem Z62 (c:Ch) (p:List Ch) (a:At) (s:List At) (h:a.key=c.key):Z2c c p (a::s)=put1 c++Z1i p s:=by
 simp [Z2c,h,Z3g]
theorem Z49 (c:Ch) (p:List Ch) (a:At) (s:List At) (h:c.key<a.key):Z2c c p (a::s)=put1 c++Z1i p (a::s):=by
 have h1:¬ a.key<c.key:=by omega
 have h2:¬ a.key=c.key:=by omega
 simp [Z2c,h1,h2,Z3g]
theorem Z53 (c:Ch) (p:List Ch):Z2c c p []=put1 c++Z1i p []:=by
 simp [Z2c,Z3g]
def chg (a:At):Ch:=⟨a.key,false,a.v⟩
def Y69 (a:At):Ch:=⟨a.key,true,V.zero⟩
def Z9K (rest:List At→List Ch) (x:At):List At→List Ch
 | []=>chg x::rest []
 | y::t=>if y.key=x.key then (if y.v=x.v then rest t else chg x::rest t) else chg x::rest (y::t)
def Z7F:List At→List At→List Ch
 | a,[]=>a.map Y69
 | a,x::b=>(a.takeWhile (fun y=>decide (y.key<x.key))).map Y69++Z9K (fun r=>Z7F r b) x (a.dropWhile (fun y=>decide (y.key<x.key)))
def Y0Q (a:List At) (x:At) (b:List At):List Ch:=
 (a.takeWhile (fun y=>decide (y.key<x.key))).map Y69++Z9K (fun r=>Z7F r b) x (a.dropWhile (fun y=>decide (y.key<x.key)))
theorem Y1N (a:List At) (x:At) (b:List At):Z7F a (x::b)=Y0Q a x b:=by simp [Z7F,Y0Q]
theorem Y1O (x:At) (b:List At):Y0Q [] x b=chg x::Z7F [] b:=by simp [Y0Q,Z9K]
end Go.Proofs.YtnmedachaeanbaaGreatDoor
