/- Merged texts. -/
import Derived.Test.YtnmedachaeanbaaGreatDoorB20
namespace Go.Proofs.YtnmedachaeanbaaGreatDoor
set_option maxRecDepth 100000
set_option maxHeartbeats 800000
open Go.RowKit
open Go.Lib (hid Utf8Tabs)
set_option linter.unusedVariables false
set_option linter.unusedSimpArgs false
def badR (l:List Ky) (c:Cl):Bool := !mayR c.r || decide (mayS l c.s=3)
def badK (l:List Ky) (c:Cl):Bool := !decide (mayS l c.s=0)
def badP (l:List Ky) (c:Cl):Bool:=decide (0<(Z1L l (!(c.r==10)) c.s).length)
def mayD (l:List Ky) (d:List Cl):Int:=
 if d.length<1∨536870912<d.length then 3 else if d.any (badR l)=true then 3 else if d.any (badK l)=true then 4
 else if (d.getLast?.map (fun c=>decide (c.r=10)))≠some true then 6 else if d.any (badP l)=true then 7 else 0
def Z0g (x:List ClS):List Cl:=x.map (·.c)
structure ClIn (w:World) (b1 s:Nat) (l:List Ky) (x:ClS):Prop where
 hS:Sch w s l
 h1:w.heap[b1]? = some (.cells #[.pointer (some ⟨s,0,none⟩)] 29 (0,0))
 rp:RdAt w w.heap.size x.As x.c.s
 hb:x.c.s.length≤100000000
 hv:okVr x.c.s
 hT:Utf8Tabs 0 1 w
theorem ClIn.ext {w w':World} {b1 s:Nat} {l:List Ky} {x:ClS} (h:ClIn w b1 s l x) (y:Below w.heap.size w w'):ClIn w' b1 s l x:=
 ⟨h.hS.ext y,(y.block b1 (Z0c h.h1)).trans h.h1,h.rp.ext y,h.hb,h.hv,Utf8Tabs_below h.hT y⟩
theorem Z8M (b1 s:Nat) (l:List Ky) (r:Int) (p:List At) (As:Option Addr) (cs:Nat) (w:World) (h:ClIn w b1 s l ⟨⟨r,p⟩,As,cs⟩) :
 Calls Tryz.prog 50 #[.agg #[.int .i32 r,.slice As p.length cs],.pointer (some ⟨b1,0,none⟩)] w fun e w'=>e=.returned (.bool (badR l ⟨r,p⟩))∧Below w.heap.size w w':=by
 have y0:=Z0b w (.cells #[.int .i32 r,.slice As p.length cs] 41)
 obtain ⟨hS,h1,rp,hb,hv,hT⟩:=h.ext y0
 have c1:=Z2n h1
 have HS:=hid hS
 have HRP:=hid rp
 have HV:=hid hv
 have HT:=hid hT
 generalize hm:mayS l p=ms
 have HM:=hid hm
 have HB:Hid (badR l ⟨r,p⟩=(!mayR r || decide (ms=3))):=hid (by unfold badR;simp only;rw [hm])
 rw [HB.out]
 clear h hS h1 rp hv hT hm
 go_enter Tryz.func50,Tryz.ntmps50
 cases hr:mayR r with
 | false=>
   have HR:=hid hr
   clear hr
   go_wp2_with (go_at_call 51;refine (Z5N r _).mono ?_;rintro e w' ⟨rfl,rfl⟩;rw [HR.out])
   go_ret
   exact ⟨rfl,y0⟩
 | true=>
   have HR:=hid hr
   clear hr
   go_wp2_with (first
    | (go_at_call 51;refine (Z5N r _).mono ?_;rintro e w' ⟨rfl,rfl⟩;rw [HR.out])
    | (go_at_call 52;refine (Z7Q s l As p.length cs p _ rfl HRP.out (by omega) HS.out HV.out HT.out).mono ?_;rintro e w1 ⟨rfl,y1⟩;rw [HM.out]))
   go_ret
   exact ⟨Z0e (by by_cases h3:ms=3<;>simp [h3]),Z0a y0 y1⟩
theorem Z8N (b1 s:Nat) (l:List Ky) (r:Int) (p:List At) (As:Option Addr) (cs:Nat) (w:World) (h:ClIn w b1 s l ⟨⟨r,p⟩,As,cs⟩) :
 Calls Tryz.prog 53 #[.agg #[.int .i32 r,.slice As p.length cs],.pointer (some ⟨b1,0,none⟩)] w fun e w'=>e=.returned (.bool (badK l ⟨r,p⟩))∧Below w.heap.size w w':=by
 have y0:=Z0b w (.cells #[.int .i32 r,.slice As p.length cs] 41)
 obtain ⟨hS,h1,rp,hb,hv,hT⟩:=h.ext y0
 have c1:=Z2n h1
 have HS:=hid hS
 have HRP:=hid rp
 have HV:=hid hv
 have HT:=hid hT
 generalize hm:mayS l p=ms
 have HM:=hid hm
 have HB:Hid (badK l ⟨r,p⟩ = !decide (ms=0)):=hid (by unfold badK;simp only;rw [hm])
 rw [HB.out]
 clear h hS h1 rp hv hT hm
 go_enter Tryz.func53,Tryz.ntmps53
 go_wp2_with (go_at_call 52;refine (Z7Q s l As p.length cs p _ rfl HRP.out (by omega) HS.out HV.out HT.out).mono ?_;rintro e w1 ⟨rfl,y1⟩;rw [HM.out])
 go_ret
 exact ⟨Z0e (by by_cases h3:ms=0<;>simp [h3]),Z0a y0 y1⟩
theorem Z8O (b1 s:Nat) (l:List Ky) (r:Int) (p:List At) (As:Option Addr) (cs:Nat) (w:World) (h:ClIn w b1 s l ⟨⟨r,p⟩,As,cs⟩) :
 Calls Tryz.prog 54 #[.agg #[.int .i32 r,.slice As p.length cs],.pointer (some ⟨b1,0,none⟩)] w fun e w'=>e=.returned (.bool (badP l ⟨r,p⟩))∧Below w.heap.size w w':=by
 have y0:=Z0b w (.cells #[.int .i32 r,.slice As p.length cs] 41)
 obtain ⟨hS,h1,rp,hb,hv,hT⟩:=h.ext y0
 have c1:=Z2n h1
 have HS:=hid hS
 have HRP:=hid rp
 have HV:=hid hv
 have HT:=hid hT
 obtain ⟨c2,c3⟩:=Z52 (heap_alloc_new w (.cells #[.int .i32 r,.slice As p.length cs] 41))
 generalize hm:Z1L l (!(r==10)) p=ps
 have HM:=hid hm
 have HB:Hid (badP l ⟨r,p⟩=decide (0<ps.length)):=hid (by unfold badP;simp only;rw [hm])
 have HL:=hid hb
 rw [HB.out]
 clear h hS h1 rp hv hT hm hb
 have hne:(r != 10) = !(r==10):=rfl
 go_enter Tryz.func54,Tryz.ntmps54
 go_wp2_with (go_at_call 55;refine Hid.out ?_)
 refine hid ?_
 refine (Z8I s l (!(r==10)) As p.length cs p _ rfl HRP.out HL.out HS.out).mono ?_
 rw [HM.out]
 rintro e w1 ⟨A1,k1,rfl,_,y1⟩
 go_wp2_with (fail)
 go_ret
 exact ⟨Z0e (by by_cases h3:0<ps.length<;>simp [h3]),Z0a y0 y1⟩
theorem Y3H (b1 s:Nat) (l:List Ky) (A:Option Addr) (n c:Nat) (d:List ClS) (w:World) (hn:n=d.length) (h:RdCs w w.heap.size A d) (hb:n≤140737488355328) (hc:∀ x∈d,ClIn w b1 s l x) :
 Calls Tryz.prog 120 #[.slice A n c,.func (.func 50) #[] #[.pointer (some ⟨b1,0,none⟩)]] w fun e w' => ∃ i:Int,e=.returned (.int .i64 i)∧Z6l (badR l) (Z0g d) i∧Below w.heap.size w w':=by
 have N:=hid hn
 have HH:=hid h
 have HC:=hid hc
 have HCL:Hid (Z0g d=d.map (·.c)):=hid rfl
 clear hn h hc
 go_enter Tryz.func120,Tryz.ntmps120
 go_wp2_with (fail)
 go_loopg [8] n (fun g iv wr => ∃ i:Nat,i≤n∧g=n-i∧iv=.int .i64 i∧Below w.heap.size w wr∧Hid (∀ x∈(Z0g d).take i,badR l x=false))
 case atStart=>exact ⟨0,by omega,rfl,rfl,Below.refl _ _,hid (by simp)⟩
 case round=>
  obtain ⟨i,hi,hg,rfl,y,HI⟩:=hrel
  have HG:=hid hg
  clear hg
  by_cases hlt:i<n
  ·have hil:i<d.length:=by have:=N.out;omega
   obtain ⟨ad,x,rfl,_,_,hx,hc1⟩:=(HH.out.ext y).el hil
   have hxc:(Z0g d)[i]? = some x.c:=by rw [HCL.out,List.getElem?_map,hx];rfl
   have HT:Hid ((Z0g d).take (i+1)=(Z0g d).take i++[x.c]):=hid (by rw [List.take_add_one,hxc];rfl)
   have HX:=hid hxc
   have hin:=hid ((HC.out x (List.mem_of_getElem? hx)).ext y)
   obtain ⟨⟨r,p⟩,As,cs⟩:=x
   obtain ⟨r0,r1⟩:=Z1E hc1
   clear hx hil hc1 hxc
   have hw2:IntKind.i64.wrap ((i:Int)+1)=(i:Int)+1:=IntWalk.i64_in _ (by omega)
   cases hp:badR l ⟨r,p⟩ with
   | true=>
     have HP:=hid hp
     clear hp
     go_wp2_with (go_at_call 50;refine Hid.out ?_)
     refine hid ?_
     refine (Z8M b1 s l r p As cs _ hin.out).mono ?_
     rintro e w' ⟨rfl,y2⟩
     rw [HP.out]
     go_wp2_with (fail)
     go_ret
     exact ⟨i,rfl,.inr ⟨i,rfl,by rw [HCL.out,List.length_map];have:=N.out;omega,HI.out,_,HX.out,HP.out⟩,Z0a y y2⟩
   | false=>
     have HP:=hid hp
     clear hp
     go_wp2_with (go_at_call 50;refine Hid.out ?_)
     refine hid ?_
     refine (Z8M b1 s l r p As cs _ hin.out).mono ?_
     rintro e w' ⟨rfl,y2⟩
     rw [HP.out]
     go_wp2_with (fail)
     go_roundg (n-(i+1))
     case measure=>have:=HG.out;omega
     case rel=>
      refine ⟨i+1,by omega,rfl,by go_num,Z0a y y2,hid ?_⟩
      intro z hz
      rw [HT.out] at hz
      rcases List.mem_append.1 hz with hz|hz
      ·exact HI.out z hz
      ·simp at hz;rw [hz];exact HP.out
  ·go_wp2_with (fail)
   go_ret
   refine ⟨-1,rfl,.inl ⟨rfl,?_⟩,y⟩
   have h1:=HI.out
   rw [List.take_of_length_le (by rw [HCL.out,List.length_map];have:=N.out;omega)] at h1
   exact h1
theorem Y3I (b1 s:Nat) (l:List Ky) (A:Option Addr) (n c:Nat) (d:List ClS) (w:World) (hn:n=d.length) (h:RdCs w w.heap.size A d) (hb:n≤140737488355328) (hc:∀ x∈d,ClIn w b1 s l x) :
 Calls Tryz.prog 49 #[.slice A n c,.func (.func 50) #[] #[.pointer (some ⟨b1,0,none⟩)]] w fun e w'=>e=.returned (.bool ((Z0g d).any (badR l)))∧Below w.heap.size w w':=by
 have N:=hid hn
 have HH:=hid h
 have HC:=hid hc
 generalize hr:(Z0g d).any (badR l)=r
 have HR:=hid hr
 clear hr hn h hc
 go_enter Tryz.func49,Tryz.ntmps49
 go_wp2_with (go_at_call 120;refine Hid.out ?_)
 refine hid ?_
 refine (Y3H b1 s l A n c d w N.out HH.out hb HC.out).mono ?_
 rintro e w1 ⟨i,rfl,hi,y⟩
 have hd:=Z7R hi
 rw [HR.out] at hd
 clear hi
 go_wp2_with (fail)
 go_ret
 exact ⟨by first|rfl|exact Z0e hd,y⟩
theorem Y2b (b1 b0 s:Nat) (l:List Ky) (A:Option Addr) (n c:Nat) (d:List ClS) (w:World) (hn:n=d.length) (h:RdCs w w.heap.size A d) (hb:n≤140737488355328) (hc:∀ x∈d,ClIn w b1 s l x)
 (h0:w.heap[b0]? = some (.cells #[.slice A n c] 23 (0,0))) :
 Calls Tryz.prog 48 #[.func (.func 50) #[] #[.pointer (some ⟨b1,0,none⟩)],.pointer (some ⟨b0,0,none⟩)] w fun e w'=>e=.returned (.bool ((Z0g d).any (badR l)))∧Below w.heap.size w w':=by
 have N:=hid hn
 have HH:=hid h
 have HC:=hid hc
 have c0:=Z2n h0
 generalize hr:(Z0g d).any (badR l)=r
 have HR:=hid hr
 clear hr hn h hc h0
 go_enter Tryz.func48,Tryz.ntmps48
 go_wp2_with (go_at_call 49;refine Hid.out ?_)
 refine hid ?_
 refine (Y3I b1 s l A n c d w N.out HH.out hb HC.out).mono ?_
 rw [HR.out]
 rintro e w1 ⟨rfl,y⟩
 go_wp2_with (fail)
 go_ret
 exact ⟨rfl,y⟩
theorem Y3J (b1 s:Nat) (l:List Ky) (A:Option Addr) (n c:Nat) (d:List ClS) (w:World) (hn:n=d.length) (h:RdCs w w.heap.size A d) (hb:n≤140737488355328) (hc:∀ x∈d,ClIn w b1 s l x) :
 Calls Tryz.prog 120 #[.slice A n c,.func (.func 53) #[] #[.pointer (some ⟨b1,0,none⟩)]] w fun e w' => ∃ i:Int,e=.returned (.int .i64 i)∧Z6l (badK l) (Z0g d) i∧Below w.heap.size w w':=by
 have N:=hid hn
 have HH:=hid h
 have HC:=hid hc
 have HCL:Hid (Z0g d=d.map (·.c)):=hid rfl
 clear hn h hc
 go_enter Tryz.func120,Tryz.ntmps120
 go_wp2_with (fail)
 go_loopg [8] n (fun g iv wr => ∃ i:Nat,i≤n∧g=n-i∧iv=.int .i64 i∧Below w.heap.size w wr∧Hid (∀ x∈(Z0g d).take i,badK l x=false))
 case atStart=>exact ⟨0,by omega,rfl,rfl,Below.refl _ _,hid (by simp)⟩
 case round=>
  obtain ⟨i,hi,hg,rfl,y,HI⟩:=hrel
  have HG:=hid hg
  clear hg
  by_cases hlt:i<n
  ·have hil:i<d.length:=by have:=N.out;omega
   obtain ⟨ad,x,rfl,_,_,hx,hc1⟩:=(HH.out.ext y).el hil
   have hxc:(Z0g d)[i]? = some x.c:=by rw [HCL.out,List.getElem?_map,hx];rfl
   have HT:Hid ((Z0g d).take (i+1)=(Z0g d).take i++[x.c]):=hid (by rw [List.take_add_one,hxc];rfl)
   have HX:=hid hxc
   have hin:=hid ((HC.out x (List.mem_of_getElem? hx)).ext y)
   obtain ⟨⟨r,p⟩,As,cs⟩:=x
   obtain ⟨r0,r1⟩:=Z1E hc1
   clear hx hil hc1 hxc
   have hw2:IntKind.i64.wrap ((i:Int)+1)=(i:Int)+1:=IntWalk.i64_in _ (by omega)
   cases hp:badK l ⟨r,p⟩ with
   | true=>
     have HP:=hid hp
     clear hp
     go_wp2_with (go_at_call 53;refine Hid.out ?_)
     refine hid ?_
     refine (Z8N b1 s l r p As cs _ hin.out).mono ?_
     rintro e w' ⟨rfl,y2⟩
     rw [HP.out]
     go_wp2_with (fail)
     go_ret
     exact ⟨i,rfl,.inr ⟨i,rfl,by rw [HCL.out,List.length_map];have:=N.out;omega,HI.out,_,HX.out,HP.out⟩,Z0a y y2⟩
   | false=>
     have HP:=hid hp
     clear hp
     go_wp2_with (go_at_call 53;refine Hid.out ?_)
     refine hid ?_
     refine (Z8N b1 s l r p As cs _ hin.out).mono ?_
     rintro e w' ⟨rfl,y2⟩
     rw [HP.out]
     go_wp2_with (fail)
     go_roundg (n-(i+1))
     case measure=>have:=HG.out;omega
     case rel=>
      refine ⟨i+1,by omega,rfl,by go_num,Z0a y y2,hid ?_⟩
      intro z hz
      rw [HT.out] at hz
      rcases List.mem_append.1 hz with hz|hz
      ·exact HI.out z hz
      ·simp at hz;rw [hz];exact HP.out
  ·go_wp2_with (fail)
   go_ret
   refine ⟨-1,rfl,.inl ⟨rfl,?_⟩,y⟩
   have h1:=HI.out
   rw [List.take_of_length_le (by rw [HCL.out,List.length_map];have:=N.out;omega)] at h1
   exact h1
theorem Y3K (b1 s:Nat) (l:List Ky) (A:Option Addr) (n c:Nat) (d:List ClS) (w:World) (hn:n=d.length) (h:RdCs w w.heap.size A d) (hb:n≤140737488355328) (hc:∀ x∈d,ClIn w b1 s l x) :
 Calls Tryz.prog 49 #[.slice A n c,.func (.func 53) #[] #[.pointer (some ⟨b1,0,none⟩)]] w fun e w'=>e=.returned (.bool ((Z0g d).any (badK l)))∧Below w.heap.size w w':=by
 have N:=hid hn
 have HH:=hid h
 have HC:=hid hc
 generalize hr:(Z0g d).any (badK l)=r
 have HR:=hid hr
 clear hr hn h hc
 go_enter Tryz.func49,Tryz.ntmps49
 go_wp2_with (go_at_call 120;refine Hid.out ?_)
 refine hid ?_
 refine (Y3J b1 s l A n c d w N.out HH.out hb HC.out).mono ?_
 rintro e w1 ⟨i,rfl,hi,y⟩
 have hd:=Z7R hi
 rw [HR.out] at hd
 clear hi
 go_wp2_with (fail)
 go_ret
 exact ⟨by first|rfl|exact Z0e hd,y⟩
theorem Y2c (b1 b0 s:Nat) (l:List Ky) (A:Option Addr) (n c:Nat) (d:List ClS) (w:World) (hn:n=d.length) (h:RdCs w w.heap.size A d) (hb:n≤140737488355328) (hc:∀ x∈d,ClIn w b1 s l x)
 (h0:w.heap[b0]? = some (.cells #[.slice A n c] 23 (0,0))) :
 Calls Tryz.prog 48 #[.func (.func 53) #[] #[.pointer (some ⟨b1,0,none⟩)],.pointer (some ⟨b0,0,none⟩)] w fun e w'=>e=.returned (.bool ((Z0g d).any (badK l)))∧Below w.heap.size w w':=by
 have N:=hid hn
 have HH:=hid h
 have HC:=hid hc
 have c0:=Z2n h0
 generalize hr:(Z0g d).any (badK l)=r
 have HR:=hid hr
 clear hr hn h hc h0
 go_enter Tryz.func48,Tryz.ntmps48
 go_wp2_with (go_at_call 49;refine Hid.out ?_)
 refine hid ?_
 refine (Y3K b1 s l A n c d w N.out HH.out hb HC.out).mono ?_
 rw [HR.out]
 rintro e w1 ⟨rfl,y⟩
 go_wp2_with (fail)
 go_ret
 exact ⟨rfl,y⟩
theorem Y3L (b1 s:Nat) (l:List Ky) (A:Option Addr) (n c:Nat) (d:List ClS) (w:World) (hn:n=d.length) (h:RdCs w w.heap.size A d) (hb:n≤140737488355328) (hc:∀ x∈d,ClIn w b1 s l x) :
 Calls Tryz.prog 120 #[.slice A n c,.func (.func 54) #[] #[.pointer (some ⟨b1,0,none⟩)]] w fun e w' => ∃ i:Int,e=.returned (.int .i64 i)∧Z6l (badP l) (Z0g d) i∧Below w.heap.size w w':=by
 have N:=hid hn
 have HH:=hid h
 have HC:=hid hc
 have HCL:Hid (Z0g d=d.map (·.c)):=hid rfl
 clear hn h hc
 go_enter Tryz.func120,Tryz.ntmps120
 go_wp2_with (fail)
 go_loopg [8] n (fun g iv wr => ∃ i:Nat,i≤n∧g=n-i∧iv=.int .i64 i∧Below w.heap.size w wr∧Hid (∀ x∈(Z0g d).take i,badP l x=false))
 case atStart=>exact ⟨0,by omega,rfl,rfl,Below.refl _ _,hid (by simp)⟩
 case round=>
  obtain ⟨i,hi,hg,rfl,y,HI⟩:=hrel
  have HG:=hid hg
  clear hg
  by_cases hlt:i<n
  ·have hil:i<d.length:=by have:=N.out;omega
   obtain ⟨ad,x,rfl,_,_,hx,hc1⟩:=(HH.out.ext y).el hil
   have hxc:(Z0g d)[i]? = some x.c:=by rw [HCL.out,List.getElem?_map,hx];rfl
   have HT:Hid ((Z0g d).take (i+1)=(Z0g d).take i++[x.c]):=hid (by rw [List.take_add_one,hxc];rfl)
   have HX:=hid hxc
   have hin:=hid ((HC.out x (List.mem_of_getElem? hx)).ext y)
   obtain ⟨⟨r,p⟩,As,cs⟩:=x
   obtain ⟨r0,r1⟩:=Z1E hc1
   clear hx hil hc1 hxc
   have hw2:IntKind.i64.wrap ((i:Int)+1)=(i:Int)+1:=IntWalk.i64_in _ (by omega)
   cases hp:badP l ⟨r,p⟩ with
   | true=>
     have HP:=hid hp
     clear hp
     go_wp2_with (go_at_call 54;refine Hid.out ?_)
     refine hid ?_
     refine (Z8O b1 s l r p As cs _ hin.out).mono ?_
     rintro e w' ⟨rfl,y2⟩
     rw [HP.out]
     go_wp2_with (fail)
     go_ret
     exact ⟨i,rfl,.inr ⟨i,rfl,by rw [HCL.out,List.length_map];have:=N.out;omega,HI.out,_,HX.out,HP.out⟩,Z0a y y2⟩
   | false=>
     have HP:=hid hp
     clear hp
     go_wp2_with (go_at_call 54;refine Hid.out ?_)
     refine hid ?_
     refine (Z8O b1 s l r p As cs _ hin.out).mono ?_
     rintro e w' ⟨rfl,y2⟩
     rw [HP.out]
     go_wp2_with (fail)
     go_roundg (n-(i+1))
     case measure=>have:=HG.out;omega
     case rel=>
      refine ⟨i+1,by omega,rfl,by go_num,Z0a y y2,hid ?_⟩
      intro z hz
      rw [HT.out] at hz
      rcases List.mem_append.1 hz with hz|hz
      ·exact HI.out z hz
      ·simp at hz;rw [hz];exact HP.out
  ·go_wp2_with (fail)
   go_ret
   refine ⟨-1,rfl,.inl ⟨rfl,?_⟩,y⟩
   have h1:=HI.out
   rw [List.take_of_length_le (by rw [HCL.out,List.length_map];have:=N.out;omega)] at h1
   exact h1
theorem Y3M (b1 s:Nat) (l:List Ky) (A:Option Addr) (n c:Nat) (d:List ClS) (w:World) (hn:n=d.length) (h:RdCs w w.heap.size A d) (hb:n≤140737488355328) (hc:∀ x∈d,ClIn w b1 s l x) :
 Calls Tryz.prog 49 #[.slice A n c,.func (.func 54) #[] #[.pointer (some ⟨b1,0,none⟩)]] w fun e w'=>e=.returned (.bool ((Z0g d).any (badP l)))∧Below w.heap.size w w':=by
 have N:=hid hn
 have HH:=hid h
 have HC:=hid hc
 generalize hr:(Z0g d).any (badP l)=r
 have HR:=hid hr
 clear hr hn h hc
 go_enter Tryz.func49,Tryz.ntmps49
 go_wp2_with (go_at_call 120;refine Hid.out ?_)
 refine hid ?_
 refine (Y3L b1 s l A n c d w N.out HH.out hb HC.out).mono ?_
 rintro e w1 ⟨i,rfl,hi,y⟩
 have hd:=Z7R hi
 rw [HR.out] at hd
 clear hi
 go_wp2_with (fail)
 go_ret
 exact ⟨by first|rfl|exact Z0e hd,y⟩
theorem Y2d (b1 b0 s:Nat) (l:List Ky) (A:Option Addr) (n c:Nat) (d:List ClS) (w:World) (hn:n=d.length) (h:RdCs w w.heap.size A d) (hb:n≤140737488355328) (hc:∀ x∈d,ClIn w b1 s l x)
 (h0:w.heap[b0]? = some (.cells #[.slice A n c] 23 (0,0))) :
 Calls Tryz.prog 48 #[.func (.func 54) #[] #[.pointer (some ⟨b1,0,none⟩)],.pointer (some ⟨b0,0,none⟩)] w fun e w'=>e=.returned (.bool ((Z0g d).any (badP l)))∧Below w.heap.size w w':=by
 have N:=hid hn
 have HH:=hid h
 have HC:=hid hc
 have c0:=Z2n h0
 generalize hr:(Z0g d).any (badP l)=r
 have HR:=hid hr
 clear hr hn h hc h0
 go_enter Tryz.func48,Tryz.ntmps48
 go_wp2_with (go_at_call 49;refine Hid.out ?_)
 refine hid ?_
 refine (Y3M b1 s l A n c d w N.out HH.out hb HC.out).mono ?_
 rw [HR.out]
 rintro e w1 ⟨rfl,y⟩
 go_wp2_with (fail)
 go_ret
 exact ⟨rfl,y⟩
section
variable {l:List Ky} {a b:List At} {p q:List Ch}
theorem Y3N (f:Ch→Bool) (vp:okVs p):okVs (p.filter f):=fun c hc=>vp c (List.mem_filter.1 hc).1
theorem Z6p (f:Ch→Bool) (hp:mayP l p=0):mayP l (p.filter f)=0:=by
 obtain ⟨p0,p1,p2,p3⟩:=Z4n hp
 refine Y7k (by have:=List.length_filter_le f p;omega) (Z3y.2 ((Z3y.1 p1).filter Ch.key f)) (fun c hc=>?_) (fun c hc=>?_)
 ·exact List.all_eq_true.1 p2 c (List.mem_filter.1 hc).1
 ·exact List.all_eq_true.1 p3 c (List.mem_filter.1 hc).1
theorem Y2e (hl:l.length≤64) (ha:mayS l a=0) (hp:mayP l p=0):mayS l (Z1i p a)=0:=by
 obtain ⟨_,a1,a2,a3⟩:=Z2d ha
 obtain ⟨_,p1,p2,p3⟩:=Z4n hp
 obtain ⟨d1,d2,_⟩:=Z6k (Z3y.1 p1) (Z2M.1 a1)
 refine stayA hl d1 fun c hc=>?_
 have h1:=Z6j At.key d1 hc
 rw [d2] at h1
 cases hy:lk Ch.key p c.key with
 | none=>
   rw [hy] at h1
   have h1:lk At.key a c.key=some c:=h1
   have hm:=Z64 At.key h1
   exact ⟨a2 c hm,a3 c hm⟩
 | some y=>
   have hm:=Z64 Ch.key hy
   rw [hy] at h1
   simp only [Z7P] at h1
   by_cases hg:y.gone=true
   ·rw [if_pos hg] at h1;cases h1
   ·rw [if_neg hg] at h1
    simp only [Option.some.injEq] at h1
    have hok:=List.all_eq_true.1 p2 y hm
    have hth:=List.all_eq_true.1 p3 y hm
    have hg':y.gone=false:=by simpa using hg
    unfold okC at hok
    rw [if_neg hg] at hok
    unfold Z0A at hth
    rw [hg',Bool.false_or] at hth
    rw [←h1]
    exact ⟨hok,(Bool.and_eq_true_iff.1 hth).2⟩
end
set_option linter.unusedVariables false
set_option linter.unusedSimpArgs false
def tkN (o:Opd):Nat:=if o.k=2 then 0 else o.n.toNat
def layC (o:Opd) (d:List Cl):List Cl:=if o.k=2 then o.r.map (fun r=>⟨r,o.s⟩) else if o.k=1 then d.take o.n.toNat else []
def Z3h (l:List Ky):List Opd→List Cl→List Cl
 | [],d=>d
 | o::x,d=>(layC o d).map (fun c=>actC l c o.p)++Z3h l x (d.drop (tkN o))
theorem Y7l (l:List Ky) (r:List Int) (s:List At) (d:List Cl):app l (r.map (fun r=>Un.ins r s)) d=r.map (fun r=>(⟨r,s⟩:Cl))++d:=by
 induction r with
 | nil=>rfl
 | cons a r ih=>show _::app l _ d=_;rw [ih];rfl
theorem Y5t (l:List Ky) (n:Nat) (d:List Cl):app l (List.replicate n .del) d=d.drop n:=by
 induction n generalizing d with
 | zero=>rfl
 | succ n ih=>rw [List.replicate_succ];show app l _ (d.drop 1)=_;rw [ih,List.drop_drop,Nat.add_comm 1]
theorem Y5u (l:List Ky) (n:Nat) (p:List Ch) (d:List Cl):app l (List.replicate n (.ret p)) d=(d.take n).map (fun c=>actC l c p)++d.drop n:=by
 induction n generalizing d with
 | zero=>rfl
 | succ n ih=>
   rw [List.replicate_succ]
   show (d.take 1).map _++app l _ (d.drop 1)=_
   rw [ih,List.drop_drop,Nat.add_comm 1,←List.append_assoc,←List.map_append]
   congr 2
   cases d with
   | nil=>simp
   | cons c d=>simp
theorem Y2f (r:List Int) (s:List At):Z0j (r.map (fun r=>Un.ins r s))=0:=by
 induction r with
 | nil=>rfl
 | cons a r ih=>rw [List.map_cons,Z2z,ih]
theorem Y2g (r:List Int) (s:List At):Z0q (r.map (fun r=>Un.ins r s))=r.length:=by
 induction r with
 | nil=>rfl
 | cons a r ih=>rw [List.map_cons,Y0U,ih];rfl
theorem Z4P (n:Nat) (p:List Ch):Z0j (List.replicate n (.ret p))=n:=by
 induction n with
 | zero=>rfl
 | succ n ih=>rw [List.replicate_succ,Z1H,ih]
theorem Z7a (n:Nat) (p:List Ch):Z0q (List.replicate n (.ret p))=n:=by
 induction n with
 | zero=>rfl
 | succ n ih=>rw [List.replicate_succ,Z4l,ih]
theorem Z8P {o:Opd} (ho:isOp o):Z0j (Z0l o)=tkN o:=by
 unfold tkN
 rcases Z0H ho with hk|hk|hk
 ·obtain ⟨e,hr⟩:=Z10 ho hk
  rw [if_pos hk,e,Z1P,Y2f]
 ·obtain ⟨e,hr⟩:=Z3e ho hk
  rw [if_neg (by rw [hk];decide),e,Z3K,Z2L];rfl
 ·obtain ⟨e,hr⟩:=Z2t ho hk
  rw [if_neg (by rw [hk];decide),e,Z1F,Z4P];rfl
theorem Y02 (l:List Ky):∀ (x:List Opd) (d:List Cl),(∀ o∈x,isOp o)→Z3h l x d=app l (Z0i x) d
 | [],d,_=>rfl
 | o::x,d,h=>by
   have ih:=Y02 l x (d.drop (tkN o)) (fun a ha=>h a (List.mem_cons_of_mem _ ha))
   have ho:=h o (by simp)
   rw [Z1e,Z3L,Z3h,ih,Z8P ho]
   congr 1
   unfold layC tkN
   rcases Z0H ho with hk|hk|hk
   ·obtain ⟨e,hr⟩:=Z10 ho hk
    rw [if_pos hk,if_pos hk]
    have hp:o.p=[]:=by rw [e];rfl
    have hu:Z0l o=o.r.map (fun r=>Un.ins r o.s):=by unfold Z0l;rw [if_pos hk]
    rw [hp,hu,Y7l,List.map_map]
    simp [Y0W,Function.comp_def]
   ·obtain ⟨e,hr⟩:=Z3e ho hk
    rw [if_neg (by rw [hk];decide),if_neg (by rw [hk];decide),if_neg (by rw [hk];decide)]
    have hu:Z0l o=List.replicate o.n.toNat .del:=by unfold Z0l;rw [if_neg (by rw [hk];decide),if_neg (by rw [hk];decide)]
    rw [hu,Y5t]
    simp
   ·obtain ⟨e,hr⟩:=Z2t ho hk
    rw [if_neg (by rw [hk];decide),if_pos hk,if_neg (by rw [hk];decide)]
    have hu:Z0l o=List.replicate o.n.toNat (.ret o.p):=by unfold Z0l;rw [if_neg (by rw [hk];decide),if_pos hk]
    rw [hu,Y5u,List.take_take,Nat.min_self]
    simp
theorem Y5v {l:List Ky} {b:Bool} {id:Int} (h:Z13 l b id=true) (h':Z13 l (!b) id=true):False:=by
 unfold Z13 at h h'
 cases hq:Z0O l id with
 | none=>rw [hq] at h;cases h
 | some k=>rw [hq] at h h';cases b<;>cases hk:k.block<;>simp [hk] at h h'
theorem Y5w {l:List Ky} {c:Cl} {p:List Ch} (hl:l.length≤64) (hc:okCl l c) (hp:mayP l p=0):okCl l (actC l c p):=by
 obtain ⟨h1,h2,h3⟩:=hc
 have hp2:mayP l (Z5n l (c.r==10) p)=0:=Z6p _ hp
 refine ⟨h1,Y2e hl h2 hp2,?_⟩
 obtain ⟨_,s1,s2,s3⟩:=Z2d h2
 obtain ⟨_,p1,p2,p3⟩:=Z4n hp2
 obtain ⟨a1,a2,_⟩:=Z6k (Z3y.1 p1) (Z2M.1 s1)
 show Z1L l (!(c.r==10)) (Z1i (Z5n l (c.r==10) p) c.s)=[]
 generalize (c.r==10)=b at *
 unfold Z1L
 refine List.filter_eq_nil_iff.2 fun x hx hk=>?_
 have e:=Z6j At.key a1 hx
 rw [a2] at e
 cases hq:lk Ch.key (Z5n l b p) x.key with
 | none=>
   rw [hq] at e
   have e:lk At.key c.s x.key=some x:=e
   have hm:x∈Z1L l (!b) c.s:=List.mem_filter.2 ⟨Z64 At.key e,hk⟩
   rw [h3] at hm;cases hm
 | some y=>
   have hy:=Z64 Ch.key hq
   have hyk:y.key=x.key:=Y8o Ch.key hq
   have:=(List.mem_filter.1 hy).2
   simp only [hyk] at this
   exact Y5v this hk
theorem Y03 {l:List Ky} (hl:l.length≤64):∀ (us:List Un) (d:List Cl),(∀ u∈us,vU l u)→(∀ c∈d,okCl l c)→∀ c∈app l us d,okCl l c
 | [],d,_,hd=>hd
 | .ins r s::us,d,hu,hd=>by
   intro c hc
   rcases List.mem_cons.1 hc with rfl|hc
   ·exact hu (.ins r s) (by simp)
   ·exact Y03 hl us d (fun u h=>hu u (List.mem_cons_of_mem _ h)) hd c hc
 | .del::us,d,hu,hd=>Y03 hl us (d.drop 1) (fun u h=>hu u (List.mem_cons_of_mem _ h)) (fun c hc=>hd c (List.mem_of_mem_drop hc))
 | .ret p::us,d,hu,hd=>by
   intro c hc
   rcases List.mem_append.1 hc with hc|hc
   ·obtain ⟨x,hx,rfl⟩:=List.mem_map.1 hc
    exact Y5w hl (hd x (List.mem_of_mem_take hx)) (hu (.ret p) (by simp))
   ·exact Y03 hl us (d.drop 1) (fun u h=>hu u (List.mem_cons_of_mem _ h)) (fun c hc=>hd c (List.mem_of_mem_drop hc)) c hc
theorem Z5w {l:List Ky} {d:List Cl}:mayD l d=0↔d.length≤536870912∧(∀ c∈d,okCl l c)∧∃ t c,d=t++[c]∧c.r=10:=by
 constructor
 ·intro h
  unfold mayD at h
  split at h
  ·cases h
  rename_i h0
  split at h
  ·cases h
  rename_i h1
  split at h
  ·cases h
  rename_i h2
  split at h
  ·cases h
  rename_i h3
  split at h
  ·cases h
  rename_i h4
  refine ⟨by omega,fun c hc=>?_,?_⟩
  ·have g1:=List.any_eq_false.1 (Bool.eq_false_iff.2 h1) c hc
   have g2:=List.any_eq_false.1 (Bool.eq_false_iff.2 h2) c hc
   have g4:=List.any_eq_false.1 (Bool.eq_false_iff.2 h4) c hc
   unfold badR at g1
   unfold badK at g2
   unfold badP at g4
   simp at g1 g2 g4
   exact ⟨g1.1,g2,g4⟩
  ·rcases List.eq_nil_or_concat d with h0 | ⟨t,c,h0⟩
   ·subst h0;simp at h3
   ·rw [List.concat_eq_append] at h0
    subst h0
    exact ⟨t,c,rfl,by simpa using h3⟩
 ·rintro ⟨h0,h1,t,c,rfl,h3⟩
  have g1:(t++[c]).any (badR l)=false:=List.any_eq_false.2 fun x hx=>by
   obtain ⟨a,b,_⟩:=h1 x hx
   unfold badR
   rw [a,b];decide
  have g2:(t++[c]).any (badK l)=false:=List.any_eq_false.2 fun x hx=>by
   obtain ⟨a,b,_⟩:=h1 x hx
   unfold badK
   rw [b];decide
  have g4:(t++[c]).any (badP l)=false:=List.any_eq_false.2 fun x hx=>by
   obtain ⟨a,b,e⟩:=h1 x hx
   unfold badP
   rw [e];simp
  unfold mayD
  rw [if_neg (by simp at h0 ⊢;omega),g1,g2,g4,if_neg (by decide),if_neg (by decide),if_neg (by simp [h3]),if_neg (by decide)]
theorem Y5x {n:Nat}:∀ {us:List Un},finU n n us=true→Z0j us=0→us=[]
 | [],_,_=>rfl
 | .ins r s::us,h,_=>by simp [finU] at h
 | .del::us,_,h=>by rw [Z2y] at h;omega
 | .ret p::us,_,h=>by rw [Z1H] at h;omega
theorem Z5x (l:List Ky):∀ (us:List Un) (t:List Cl) (c:Cl) (n a:Nat),Z0j us≤t.length+1→finU n a us=true→n=a+(t.length+1)→∃ t' c',app l us (t++[c])=t'++[c']∧c'.r=c.r
 | [],t,c,n,a,_,_,_=>⟨t,c,rfl,rfl⟩
 | .ins r s::us,t,c,n,a,h1,h2,h3=>by
   simp only [finU,Bool.and_eq_true] at h2
   obtain ⟨t',c',e,hr⟩:=Z5x l us t c n a (by rw [Z2z] at h1;exact h1) h2.2 h3
   exact ⟨⟨r,s⟩::t',c',by show _::app l us _=_;rw [e];rfl,hr⟩
 | .del::us,t,c,n,a,h1,h2,h3=>by
   simp only [finU,Bool.and_eq_true,decide_eq_true_eq] at h2
   rw [Z2y] at h1
   cases t with
   | nil=>simp at h3;omega
   | cons x t=>
     obtain ⟨t',c',e,hr⟩:=Z5x l us t c n (a+1) (by simp at h1;omega) h2.2 (by simp at h3;omega)
     exact ⟨t',c',e,hr⟩
 | .ret p::us,t,c,n,a,h1,h2,h3=>by
   simp only [finU] at h2
   rw [Z1H] at h1
   cases t with
   | nil=>
     have e0:us=[]:=Y5x (n:=n) (by rw [show a+1=n by simp at h3;omega] at h2;exact h2) (by simp at h1;omega)
     subst e0
     exact ⟨[],actC l c p,rfl,rfl⟩
   | cons x t=>
     obtain ⟨t',c',e,hr⟩:=Z5x l us t c n (a+1) (by simp at h1;omega) h2 (by simp at h3;omega)
     exact ⟨actC l x p::t',c',by show [actC l x p]++app l us (t++[c])=_;rw [e];rfl,hr⟩
theorem Y5y {l:List Ky} {us:List Un} {d:List Cl} {most:Nat} (hl:l.length≤64) (hd:mayD l d=0) (hf:FitU l us d.length most) (hb:d.length+Z0q us≤536870912+Z0j us):mayD l (app l us d)=0:=by
 obtain ⟨h0,h1,t,c,rfl,h3⟩:=Z5w.1 hd
 obtain ⟨t',c',e,hr⟩:=Z5x l us t c (t++[c]).length 0 (by have:=hf.t;simpa using this) hf.f (by simp)
 have hlen:=Z4L l us (t++[c]) hf.t
 exact Z5w.2 ⟨by omega,Y03 hl us _ hf.v h1,t',c',e,hr.trans h3⟩
theorem Z5y (us:List Un):∃ k,us=trim us++List.replicate k (.ret []):=by
 induction us with
 | nil=>exact ⟨0,rfl⟩
 | cons u us ih=>
   obtain ⟨k,hk⟩:=ih
   rw [trim]
   cases ht:trim us with
   | nil=>
     rw [ht,List.nil_append] at hk
     simp only
     by_cases hu:u=.ret []
     ·rw [if_pos hu];exact ⟨k+1,by rw [hu,List.replicate_succ,List.nil_append,←hk]⟩
     ·rw [if_neg hu];exact ⟨k,by rw [←hk];rfl⟩
   | cons v vs=>
     rw [ht] at hk
     exact ⟨k,by simp only [List.cons_append];rw [List.cons_append] at hk;rw [←hk]⟩
theorem Z8Q {P:Un→Prop} (hd:P .del):∀ (us I:List Un) (g:Nat),(∀ u∈I,P u)→(∀ u∈us,P u)→∀ u∈cn us I g,P u
 | [],I,g,hI,_=>fun u hu=>by
   rcases List.mem_append.1 hu with hu|hu
   ·exact hI u hu
   ·rw [(List.mem_replicate.1 hu).2];exact hd
 | .ins r s::us,I,g,hI,hu=>by
   have h1:∀ u∈I++[Un.ins r s],P u:=fun u h=>by
    rcases List.mem_append.1 h with h|h
    ·exact hI u h
    ·simp at h;subst h;exact hu _ (by simp)
   rw [cn]
   exact Z8Q hd us (I++[.ins r s]) g h1 (fun u h=>hu u (List.mem_cons_of_mem _ h))
 | .del::us,I,g,hI,hu=>by
   rw [cn]
   exact Z8Q hd us I (g+1) hI (fun u h=>hu u (List.mem_cons_of_mem _ h))
 | .ret p::us,I,g,hI,hu=>fun u h=>by
   rw [cn] at h
   rcases List.mem_append.1 h with h|h
   ·rcases List.mem_append.1 h with h|h
    ·exact hI u h
    ·rw [(List.mem_replicate.1 h).2];exact hd
   ·rcases List.mem_cons.1 h with rfl|h
    ·exact hu _ (by simp)
    ·exact Z8Q hd us [] 0 (by simp) (fun u h=>hu u (List.mem_cons_of_mem _ h)) u h
theorem Y3O {n a:Nat}:∀ {I:List Un},(∀ u∈I,∃ r s,u=Un.ins r s)→(I≠[]→a≠n)→finU n a I=true∧Z0j I=0
 | [],_,_=>⟨rfl,rfl⟩
 | u::I,h,h2=>by
   obtain ⟨r,s,rfl⟩:=h u (by simp)
   have h3:=h2 (by simp)
   obtain ⟨i1,i2⟩:=Y3O (n:=n) (a:=a) (I:=I) (fun u hu=>h u (List.mem_cons_of_mem _ hu)) (fun _=>h3)
   exact ⟨by simp [finU,i1,h3],by rw [Z2z,i2]⟩
theorem Y3P {n a g:Nat} {I:List Un} (hI:∀ u∈I,∃ r s,u=Un.ins r s) (h1:I≠[]→a≠n) (h2:0<g→a+g≠n) (h3:a+g≤n):finU n a (I++List.replicate g .del)=true∧Z0j (I++List.replicate g .del)=g:=by
 obtain ⟨i1,i2⟩:=Y3O hI h1
 rw [Z1x,i1,i2,Z0K,i2,Z2L]
 refine ⟨?_,by omega⟩
 cases g with
 | zero=>rfl
 | succ k=>
   rw [Nat.add_zero,Bool.true_and,Z8K n k a h3]
   exact decide_eq_true (h2 (by omega))
theorem Y04 (n:Nat):∀ (us I:List Un) (g a:Nat),(∀ u∈I,∃ r s,u=Un.ins r s)→(I≠[]→a≠n)→(0<g→a+g≠n)→a+g+Z0j us≤n→finU n (a+g) us=true→finU n a (cn us I g)=true
 | [],I,g,a,hI,h1,h2,h3,_=>(Y3P hI h1 h2 (by simp [Z0j] at h3;exact h3)).1
 | .ins r s::us,I,g,a,hI,h1,h2,h3,h4=>by
   simp only [finU,Bool.and_eq_true,decide_eq_true_eq] at h4
   rw [Z2z] at h3
   rw [cn]
   exact Y04 n us (I++[.ins r s]) g a (fun u h=>by
    rcases List.mem_append.1 h with h|h
    ·exact hI u h
    ·simp at h;exact ⟨r,s,h⟩) (fun _=>by omega) h2 h3 h4.2
 | .del::us,I,g,a,hI,h1,h2,h3,h4=>by
   simp only [finU,Bool.and_eq_true,decide_eq_true_eq] at h4
   rw [Z2y] at h3
   rw [cn]
   exact Y04 n us I (g+1) a hI h1 (fun _=>by omega) (by omega) h4.2
 | .ret p::us,I,g,a,hI,h1,h2,h3,h4=>by
   simp only [finU] at h4
   rw [Z1H] at h3
   obtain ⟨e1,e2⟩:=Y3P hI h1 h2 (by omega)
   rw [cn,Z1x,e1,e2,Bool.true_and]
   show finU n (a+g+1) (cn us [] 0)=true
   exact Y04 n us [] 0 (a+g+1) (by simp) (by simp) (by simp) (by omega) h4
theorem Y8u {l:List Ky} {us:List Un} {n most:Nat} (h:FitU l us n most):FitU l (nf us) n most:=by
 obtain ⟨k,hk⟩:=Z5y (Z1C us)
 have hk':Z1C us=nf us++List.replicate k (.ret []):=hk
 have hc:=Y04 n us [] 0 0 (by simp) (by simp) (by simp) (by have:=h.t;omega) h.f
 have ht:=Z6g us
 have hm:=Z6h us
 rw [hk',Z0K,Z4P] at ht
 rw [hk',Z0V,Z7a] at hm
 have e:cn us [] 0=Z1C us:=rfl
 rw [e,hk',Z1x,Bool.and_eq_true] at hc
 have hall:=Z8Q (P:=vU l) trivial us [] 0 (by simp) h.v
 have h1:=h.t;have h2:=h.m;have h3:=h.tb;have h4:=h.mb
 refine ⟨fun u hu=>hall u ?_,by omega,h.n1,h.nm,hc.1,by omega,by omega,by omega⟩
 show u∈Z1C us
 rw [hk'];exact List.mem_append_left _ hu
def tks:List Opd→Nat
 | []=>0
 | o::x=>tkN o+tks x
def Z1I (l:List Ky):List Opd→List Cl→List Cl
 | [],_=>[]
 | o::x,d=>(layC o d).map (fun c=>actC l c o.p)++Z1I l x (d.drop (tkN o))
theorem Z4Q (a b:List Opd):tks (a++b)=tks a+tks b:=by
 induction a with
 | nil=>simp [tks]
 | cons o a ih=>show tkN o+tks (a++b)=_;rw [ih];simp only [tks];omega
theorem Z5b (l:List Ky) (a b:List Opd):∀ d,Z1I l (a++b) d=Z1I l a d++Z1I l b (d.drop (tks a)):=by
 induction a with
 | nil=>intro d;simp [Z1I,tks]
 | cons o a ih=>
   intro d
   show _++Z1I l (a++b) (d.drop (tkN o))=_
   rw [ih,List.drop_drop]
   simp only [Z1I,tks,List.append_assoc]
theorem Z6q (l:List Ky) (x:List Opd):∀ d,Z3h l x d=Z1I l x d++d.drop (tks x):=by
 induction x with
 | nil=>intro d;simp [Z3h,Z1I,tks]
 | cons o x ih=>
   intro d
   show _++Z3h l x (d.drop (tkN o))=_
   rw [ih,List.drop_drop]
   simp only [Z1I,tks,List.append_assoc]
theorem Z9Y (l:List Ky) (a b:List Opd) (d:List Cl):Z3h l (a++b) d=Z1I l a d++Z3h l b (d.drop (tks a)):=by
 rw [Z6q,Z6q,Z5b,Z4Q,List.drop_drop,List.append_assoc]
theorem Y3Q {α:Type} {x:List α} {i:Nat} {o:α} (h:x[i]? = some o):x.take (i+1)=x.take i++[o]:=by rw [List.take_add_one,h];rfl
theorem Z5z {l:List Ky} {x:List Opd} {i:Nat} {o:Opd} {d:List Cl} (h:x[i]? = some o):Z1I l (x.take (i+1)) d=Z1I l (x.take i) d++(layC o (d.drop (tks (x.take i)))).map (fun c=>actC l c o.p):=by
 rw [Y3Q h,Z5b];simp [Z1I]
theorem Y6E {x:List Opd} {i:Nat} {o:Opd} (h:x[i]? = some o):tks (x.take (i+1))=tks (x.take i)+tkN o:=by
 rw [Y3Q h,Z4Q];rfl
theorem Y8v {x:List Opd} (i:Nat):tks (x.take i)≤tks x:=by
 conv=>rhs;rw [←List.take_append_drop i x]
 rw [Z4Q];omega
theorem Y3R {l:List Ky} {x:List Opd} {i:Nat} {o:Opd} {d:List Cl} (h:x[i]? = some o):(Z1I l (x.take i) d).length+(layC o (d.drop (tks (x.take i)))).length≤(Z3h l x d).length:=by
 have e:x=x.take (i+1)++x.drop (i+1):=(List.take_append_drop _ _).symm
 conv=>rhs;rw [e]
 rw [Z9Y,Z5z h]
 simp
theorem Y3S {x:List Opd} (h:∀ o∈x,isOp o):tks x=Z0j (Z0i x):=by
 induction x with
 | nil=>rfl
 | cons o x ih=>
   rw [Z1e,Z0K,Z8P (h o (by simp)),←ih (fun a ha=>h a (List.mem_cons_of_mem _ ha))];rfl
open Go.RowKit
theorem Tryz.elCl:Tryz.prog.elem 23=41:=by kernel_rfl
theorem Tryz.szCl:(Tryz.prog.info? 41).map (·.size)=some 2:=by kernel_rfl
theorem Y3T (W:World):(sizeOf 41).run Tryz.prog W=.ok 2 W:=by
 cases h:Tryz.prog.info? 41 with
 | none=>have:=Tryz.szCl;rw [h] at this;cases this
 | some i=>have:=Tryz.szCl;rw [h] at this;simp at this;simp [sizeOf,typeInfo,h,this]
theorem RdCl.take {w:World} {B:Nat} {A:Option Addr} {l:List ClS} (h:RdCl w B A l) (k:Nat):RdCl w B A (l.take k):=⟨h.1.take k,fun x hx=>h.2 x (List.mem_of_mem_take hx)⟩
theorem RdCl.from {w:World} {B k c:Nat} {A A':Option Addr} {l:List ClS} (h:RdCl w B A l) (hA:advS A c k 2=A') (hk:k≤l.length) (hc:l.length≤c):RdCl w B A' (l.drop k):=⟨hA ▸ h.1.advS hk hc,fun x hx=>h.2 x (List.mem_of_mem_drop hx)⟩
theorem Y2h (l:List ClS) (k:Nat):Z0g (l.take k)=(Z0g l).take k:=by unfold Z0g;rw [List.map_take]
theorem Z7b (l:List ClS) (k:Nat):Z0g (l.drop k)=(Z0g l).drop k:=by unfold Z0g;rw [List.map_drop]
theorem Z00 (l:List ClS):(Z0g l).length=l.length:=by unfold Z0g;simp
theorem Z7V {l:List ClS} {i:Nat} {x:ClS} (h:l[i]? = some x):(Z0g l)[i]? = some x.c:=by unfold Z0g;rw [List.getElem?_map,h];rfl
def okUn:Un→Prop
 | .ins r s=>okVr s
 | .del=>True
 | .ret p=>okVs p
theorem Y5z {p:List Ch} {a:List At} (a1:Z4b a=true) (p1:Z3Y p=true) (va:okVr a) (vp:okVs p):okVr (Z1i p a):=fun c hc=>by
 obtain ⟨d1,d2,_⟩:=Z6k (Z3y.1 p1) (Z2M.1 a1)
 have h1:=Z6j At.key d1 hc
 rw [d2] at h1
 cases hy:lk Ch.key p c.key with
 | none=>
   rw [hy] at h1
   have h1:lk At.key a c.key=some c:=h1
   exact va c (Z64 At.key h1)
 | some y=>
   rw [hy] at h1
   simp only [Z7P] at h1
   by_cases hg:y.gone=true
   ·rw [if_pos hg] at h1;cases h1
   ·rw [if_neg hg] at h1
    simp only [Option.some.injEq] at h1
    rw [←h1]
    exact (vp y (Z64 Ch.key hy)).1
theorem Y8w {l:List Ky} {c:Cl} {p:List Ch} (hs:mayS l c.s=0) (hp:mayP l p=0) (va:okVr c.s) (vp:okVs p):okVr (actC l c p).s:=by
 obtain ⟨_,a1,_⟩:=Z2d hs
 obtain ⟨_,p1,_⟩:=Z4n (Z6p (fun x=>Z13 l (c.r==10) x.key) hp)
 exact Y5z a1 p1 va (Y3N _ vp)
theorem Y05 {l:List Ky}:∀ (us:List Un) (d:List Cl),(∀ u∈us,vU l u∧okUn u)→(∀ c∈d,okCl l c∧okVr c.s)→∀ c∈app l us d,okVr c.s
 | [],d,_,hd=>fun c hc=>(hd c hc).2
 | .ins r s::us,d,hu,hd=>by
   intro c hc
   rcases List.mem_cons.1 hc with rfl|hc
   ·exact (hu (.ins r s) (by simp)).2
   ·exact Y05 us d (fun u h=>hu u (List.mem_cons_of_mem _ h)) hd c hc
 | .del::us,d,hu,hd=>Y05 us (d.drop 1) (fun u h=>hu u (List.mem_cons_of_mem _ h)) (fun c hc=>hd c (List.mem_of_mem_drop hc))
 | .ret p::us,d,hu,hd=>by
   intro c hc
   rcases List.mem_append.1 hc with hc|hc
   ·obtain ⟨x,hx,rfl⟩:=List.mem_map.1 hc
    have hx2:=hd x (List.mem_of_mem_take hx)
    have h3:=hu (.ret p) (by simp)
    exact Y8w hx2.1.2.1 h3.1 hx2.2 h3.2
   ·exact Y05 us (d.drop 1) (fun u h=>hu u (List.mem_cons_of_mem _ h)) (fun c hc=>hd c (List.mem_of_mem_drop hc)) c hc
theorem Z6r {o:Opd} (h:okOp o):∀ u∈Z0l o,okUn u:=fun u hu=>by
 unfold Z0l at hu
 by_cases h2:o.k=2
 ·rw [if_pos h2] at hu
  obtain ⟨r,_,rfl⟩:=List.mem_map.1 hu
  exact h.1
 ·rw [if_neg h2] at hu
  by_cases h1:o.k=1
  ·rw [if_pos h1] at hu
   rw [(List.mem_replicate.1 hu).2];exact h.2.1
  ·rw [if_neg h1] at hu
   rw [(List.mem_replicate.1 hu).2];trivial
def Z01 (l:List Ky) (x:List OpS) (d:List Cl) (most:Int):Int:=
 if mayO l x≠0 then mayO l x else if mayD l d≠0 then 3 else Z3A l x (d.length:Int) most
theorem Z1y {l:List Ky} {x:List OpS} {d:List Cl} {most:Int} (h:Z01 l x d most=0):mayD l d=0∧Z3A l x (d.length:Int) most=0:=by
 unfold Z01 at h
 by_cases h1:mayO l x=0
 ·rw [if_neg (by simpa using h1)] at h
  by_cases h2:mayD l d=0
  ·rw [if_neg (by simpa using h2)] at h
   exact ⟨h2,h⟩
  ·rw [if_pos h2] at h;cases h
 ·rw [if_pos h1] at h;exact absurd h h1
theorem Z25 {l:List Ky} {x:List OpS} {d:List Cl} {most:Int} (h1:mayD l d=0) (h2:Z3A l x (d.length:Int) most=0):Z01 l x d most=0:=by
 obtain ⟨h3,_⟩:=Z2g h2
 unfold Z01
 rw [if_neg (by simpa using h3),if_neg (by simpa using h1),h2]
structure Came (l:List Ky) (us:List Un) (d:List Cl) (o:List Cl):Prop where
 eq:o=app l us d
 may:mayD l o=0
 len:o.length+Z0j us=d.length+Z0q us
 s64:∀ c∈o,c.s.length≤64
 vr:∀ c∈o,okVr c.s
theorem came {l:List Ky} {x:List OpS} {d:List Cl} {most:Nat} (hl:l.length≤64) (hx:x.length≤1048576) (hmo:most≤536870912) (ho:∀ o∈x,okOp o.o) (hd:∀ c∈d,okVr c.s) (h:Z01 l x d most=0) :
 goodO l x∧FitU l (Z0i (osOf x)) d.length most∧Came l (Z0i (osOf x)) d (app l (Z0i (osOf x)) d):=by
 obtain ⟨h1,h2⟩:=Z1y h
 obtain ⟨hg,hf⟩:=Z4O hx (by omega) h2
 have hm:=hf.m
 have hb:d.length+Z0q (Z0i (osOf x))≤536870912+Z0j (Z0i (osOf x)):=by omega
 have hmay:=Y5y hl h1 hf hb
 obtain ⟨_,hok,_⟩:=Z5w.1 hmay
 obtain ⟨_,hdk,_⟩:=Z5w.1 h1
 refine ⟨hg,hf,rfl,hmay,Z4L _ _ _ hf.t,fun c hc=>(Z2d (hok c hc).2.1).1,Y05 _ _ (fun u hu=>⟨hf.v u hu,?_⟩) (fun c hc=>⟨hdk c hc,hd c hc⟩)⟩
 obtain ⟨o,hom,hu⟩:=Z1t.1 hu
 exact Z6r (ho o hom) u hu
theorem Z9Z {o:Opd} (h:isOp o):Z0q (Z0l o)≤o.r.length+Z0j (Z0l o):=by
 rcases Z0H h with hk|hk|hk
 ·obtain ⟨e,hr⟩:=Z10 h hk
  have hu:Z0l o=o.r.map (fun r=>Un.ins r o.s):=by unfold Z0l;rw [if_pos hk]
  rw [hu,Y2g];omega
 ·have hu:Z0l o=List.replicate o.n.toNat .del:=by unfold Z0l;rw [if_neg (by rw [hk];decide),if_neg (by rw [hk];decide)]
  have hm:∀ n,Z0q (List.replicate n Un.del)=0:=fun n=>by
   induction n with
   | zero=>rfl
   | succ n ih=>rw [List.replicate_succ,Z7N,ih]
  rw [hu,hm];omega
 ·have hu:Z0l o=List.replicate o.n.toNat (.ret o.p):=by unfold Z0l;rw [if_neg (by rw [hk];decide),if_pos hk]
  rw [hu,Z7a,Z4P];omega
def Y5A (m:Mk) (d:List Cl):Mk:=d.foldl (fun m c=>Z0J m [c.r] c.s) m
end Go.Proofs.YtnmedachaeanbaaGreatDoor
