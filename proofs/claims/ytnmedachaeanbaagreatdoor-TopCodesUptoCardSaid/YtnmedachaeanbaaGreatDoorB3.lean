/- Merged texts. -/
import Derived.Test.YtnmedachaeanbaaGreatDoorB2
import Derived.Lib.ValidAsc
import Derived.Lib.EndianBits
import Derived.Shelf.Unicode.WordAny
import Derived.Lib.LaidU8
import Derived.Deep.CutBlock
import Derived.Deep.DeepCutAuto
import Derived.Deep.DeepBigQuietO
namespace Go.Proofs.YtnmedachaeanbaaGreatDoor
set_option maxRecDepth 100000
set_option maxHeartbeats 8000000
open Go.RowKit
open Go.Lib (hid)
set_option linter.unusedVariables false
set_option linter.unusedSimpArgs false
def Z0T (r:Int):List Int→Option Int
 | []=>some r
 | x::t=>if 128≤x∧x≤191 then Z0T (r*64+x-128) t else none
def Z1D (n:Nat) (r:Int) (b:List Int):Int×Nat:=
 if b.length<n then (0,0) else
 match Z0T r ((b.drop 1).take (n-1)) with
 | none=>(0,0)
 | some r=>if mayR r=true∧(encR r).length=n then (r,n) else (0,0)
def Z0F (b:List Int):Int×Nat:=
 let b0:=b.headD 0
 if 240≤b0 then Z1D 4 (b0-240) b else if 224≤b0 then Z1D 3 (b0-224) b else if 192≤b0 then Z1D 2 (b0-192) b else if 128≤b0 then (0,0) else Z1D 1 b0 b
theorem Z15 {b:List Int} {b0:Int} (h:b[0]? = some b0):Z0F b=if 240≤b0 then Z1D 4 (b0-240) b else if 224≤b0 then Z1D 3 (b0-224) b else if 192≤b0 then Z1D 2 (b0-192) b else if 128≤b0 then (0,0) else Z1D 1 b0 b:=by
 cases b with
 | nil=>cases h
 | cons a t=>injection h with h;subst h;rfl
theorem Y4T (A:Option Addr) (n c:Nat) (b:List Int) (w:World) (hn:n=b.length) (h:RdU8 w w.heap.size A b) (hb:n≤400000000) (hpos:0<n) (hu:∀ x∈b,0≤x∧x≤255) :
 Calls Tryz.prog 185 #[.slice A n c] w fun e w'=>e=.returned (.tuple #[.int .i32 (Z0F b).1,.int .i64 ((Z0F b).2:Nat)])∧Below w.heap.size w w':=by
 have N:=hid hn
 clear hn
 obtain ⟨ad,b0,rfl,had,hd0,hb0,hc1⟩:=h.el (i:=0) (by have:=N.out;omega)
 have r0:w.cell? ad=some (.int .u8 b0):=by have:=hc1 0 _ rfl;simpa [Z0n] using this
 have hlo:=(hu b0 (List.mem_of_getElem? hb0)).1
 have hhi:=(hu b0 (List.mem_of_getElem? hb0)).2
 have he:=Z15 hb0
 clear hc1
 by_cases h1:240≤b0
 ·rw [if_pos h1] at he
  by_cases hk:(n:Int)<4
  ·have hx:Z0F b=(0,0):=by rw [he,Z1D,if_pos (by have:=N.out;omega)]
   have HX:=hid hx
   clear hx he
   go_enter Tryz.func185,Tryz.ntmps185
   go_wp2_with (fail)
   refine bodyPost_ret (v:=.tuple #[.int .i32 0,.int .i64 0]) (by simp [results,Tryz.results185,go_sem]) rfl ?_
   exact ⟨by rw [HX.out];rfl,Below.refl _ _⟩
  ·go_enter Tryz.func185,Tryz.ntmps185
   have hw1:IntKind.i32.wrap b0=b0:=IntWalk.i32_in _ (by omega)
   go_wp2_with (fail)
   clear hw1
   go_loopg [5,6] (4-1) (fun g rv iv wr => ∃ (i:Nat) (r:Int),1≤i∧i≤4∧g=4-i∧rv=.int .i32 r∧iv=.int .i64 (i:Int)∧w=wr∧0≤r∧r<128*64 ^ (i-1)∧Hid (Z0T (b0-240) ((b.drop 1).take (4-1))=Z0T r ((b.drop i).take (4-i))))
   case atStart=>exact ⟨1,b0-240,by omega,by omega,rfl,rfl,rfl,rfl,by omega,by simp;omega,hid rfl⟩
   case round=>
    obtain ⟨i,r,hi1,hi,hg,rfl,rfl,rfl,hr0,hr1,HC⟩:=hrel
    have HG:=hid hg
    clear hg
    by_cases hlt:i<4
    ·have hr2:r≤524287:=by
      have:i=1∨i=2∨i=3:=by omega
      rcases this with rfl|rfl|rfl<;>simp at hr1<;>omega
     obtain ⟨ad',x,ea,_,hdx,hbx,hcx⟩:=h.el (i:=i) (by have:=N.out;omega)
     injection ea with ea
     subst ea
     have x0:w.cell? (ad.add i)=some (.int .u8 x):=by have:=hcx 0 _ rfl;simpa [Z0n] using this
     have hxlo:=(hu x (List.mem_of_getElem? hbx)).1
     have hxhi:=(hu x (List.mem_of_getElem? hbx)).2
     have hil:i<n:=by omega
     have e1:(b.drop i).take (4-i)=x::(b.drop (i+1)).take (4-(i+1)):=by
      rw [hdx,show 4-i=(4-(i+1))+1 by omega,List.take_succ_cons]
     rw [e1] at HC
     clear e1 hcx hdx
     by_cases hx1:x<128
     ·have hx:Z0F b=(0,0):=by
       have t:=HC.out
       rw [Z0T,if_neg (by omega)] at t
       rw [he,Z1D,if_neg (by have:=N.out;omega)]
       simp only [t]
      have HX:=hid hx
      clear hx he
      go_wp2_with (fail)
      refine bodyPost_ret (v:=.tuple #[.int .i32 0,.int .i64 0]) (by simp [results,Tryz.results185,go_sem]) rfl ?_
      exact ⟨by rw [HX.out];rfl,Below.refl _ _⟩
     ·by_cases hx2:191<x
      ·have hx:Z0F b=(0,0):=by
        have t:=HC.out
        rw [Z0T,if_neg (by omega)] at t
        rw [he,Z1D,if_neg (by have:=N.out;omega)]
        simp only [t]
       have HX:=hid hx
       clear hx he
       go_wp2_with (fail)
       refine bodyPost_ret (v:=.tuple #[.int .i32 0,.int .i64 0]) (by simp [results,Tryz.results185,go_sem]) rfl ?_
       exact ⟨by rw [HX.out];rfl,Below.refl _ _⟩
      ·have HE:=hid he
       clear he
       have HC2:Hid (Z0T (b0-240) ((b.drop 1).take (4-1))=Z0T (r*64+x-128) ((b.drop (i+1)).take (4-(i+1)))):=hid (by have t:=HC.out;rwa [Z0T,if_pos (by omega)] at t)
       have hr3:r*64+x-128<128*64 ^ (i+1-1):=by
        have:i=1∨i=2∨i=3:=by omega
        rcases this with rfl|rfl|rfl<;>simp at hr1 ⊢ <;> omega
       clear hr1 HC
       go_wp2_with (fail)
       go_roundg (4-(i+1))
       case measure=>have:=HG.out;omega
       case rel=>exact ⟨i+1,r*64+x-128,by omega,by omega,rfl,by first|rfl|go_num,by go_num,rfl,by omega,hr3,HC2⟩
    ·have ein:i=4:=by omega
     subst ein
     have hc:Z0T (b0-240) ((b.drop 1).take (4-1))=some r:=by rw [HC.out];simp [Z0T]
     have hx:Z0F b=if mayR r=true∧(encR r).length=4 then (r,4) else (0,0):=by
      rw [he,Z1D,if_neg (by have:=N.out;omega)]
      simp only [hc]
     have HX:=hid hx
     clear hx he hc HC hr1 hlt hi hi1
     cases hm:mayR r with
     | false=>
       have HM:=hid hm
       go_wp2_with (go_at_call 177;refine (Z1c r w).mono ?_;rintro e w2 ⟨rfl,rfl⟩;rw [HM.out])
       refine bodyPost_ret (v:=.tuple #[.int .i32 0,.int .i64 0]) (by simp [results,Tryz.results185,go_sem]) rfl ?_
       exact ⟨by rw [HX.out,HM.out];rfl,Below.refl _ _⟩
     | true=>
       have HM:=hid hm
       have hhi:=(Z2C hm).2
       clear hm
       go_wp2_with (first
        | (go_at_call 177;refine (Z1c r w).mono ?_;rintro e w2 ⟨rfl,rfl⟩;rw [HM.out])
        | (go_at_call 261;refine Hid.out ?_))
       refine hid ?_
       refine (Z7s r w hr0 hhi).mono ?_
       rintro e w2 ⟨A2,c2,rfl,rr,y⟩
       obtain ⟨q,hq⟩:∃ q,q=(encR r).length:=⟨_,rfl⟩
       rw [←hq]
       have HQ:=hid hq
       clear hq rr
       by_cases hqk:(q:Int)=4
       ·have hx:Z0F b=(r,4):=by rw [HX.out,if_pos ⟨HM.out,by rw [←HQ.out];omega⟩]
        have HX2:=hid hx
        clear hx
        go_wp2_with (fail)
        refine bodyPost_ret (v:=.tuple #[.int .i32 r,.int .i64 4]) (by simp [results,Tryz.results185,go_sem]) rfl ?_
        exact ⟨by rw [HX2.out];rfl,y⟩
       ·have hx:Z0F b=(0,0):=by rw [HX.out,if_neg (by rw [←HQ.out];omega)]
        have HX2:=hid hx
        clear hx
        go_wp2_with (fail)
        refine bodyPost_ret (v:=.tuple #[.int .i32 0,.int .i64 0]) (by simp [results,Tryz.results185,go_sem]) rfl ?_
        exact ⟨by rw [HX2.out];rfl,y⟩
 ·rw [if_neg h1] at he
  by_cases h2:224≤b0
  ·rw [if_pos h2] at he
   by_cases hk:(n:Int)<3
   ·have hx:Z0F b=(0,0):=by rw [he,Z1D,if_pos (by have:=N.out;omega)]
    have HX:=hid hx
    clear hx he
    go_enter Tryz.func185,Tryz.ntmps185
    go_wp2_with (fail)
    refine bodyPost_ret (v:=.tuple #[.int .i32 0,.int .i64 0]) (by simp [results,Tryz.results185,go_sem]) rfl ?_
    exact ⟨by rw [HX.out];rfl,Below.refl _ _⟩
   ·go_enter Tryz.func185,Tryz.ntmps185
    have hw1:IntKind.i32.wrap b0=b0:=IntWalk.i32_in _ (by omega)
    go_wp2_with (fail)
    clear hw1
    go_loopg [5,6] (3-1) (fun g rv iv wr => ∃ (i:Nat) (r:Int),1≤i∧i≤3∧g=3-i∧rv=.int .i32 r∧iv=.int .i64 (i:Int)∧w=wr∧0≤r∧r<128*64 ^ (i-1)∧Hid (Z0T (b0-224) ((b.drop 1).take (3-1))=Z0T r ((b.drop i).take (3-i))))
    case atStart=>exact ⟨1,b0-224,by omega,by omega,rfl,rfl,rfl,rfl,by omega,by simp;omega,hid rfl⟩
    case round=>
     obtain ⟨i,r,hi1,hi,hg,rfl,rfl,rfl,hr0,hr1,HC⟩:=hrel
     have HG:=hid hg
     clear hg
     by_cases hlt:i<3
     ·have hr2:r≤524287:=by
       have:i=1∨i=2∨i=3:=by omega
       rcases this with rfl|rfl|rfl<;>simp at hr1<;>omega
      obtain ⟨ad',x,ea,_,hdx,hbx,hcx⟩:=h.el (i:=i) (by have:=N.out;omega)
      injection ea with ea
      subst ea
      have x0:w.cell? (ad.add i)=some (.int .u8 x):=by have:=hcx 0 _ rfl;simpa [Z0n] using this
      have hxlo:=(hu x (List.mem_of_getElem? hbx)).1
      have hxhi:=(hu x (List.mem_of_getElem? hbx)).2
      have hil:i<n:=by omega
      have e1:(b.drop i).take (3-i)=x::(b.drop (i+1)).take (3-(i+1)):=by
       rw [hdx,show 3-i=(3-(i+1))+1 by omega,List.take_succ_cons]
      rw [e1] at HC
      clear e1 hcx hdx
      by_cases hx1:x<128
      ·have hx:Z0F b=(0,0):=by
        have t:=HC.out
        rw [Z0T,if_neg (by omega)] at t
        rw [he,Z1D,if_neg (by have:=N.out;omega)]
        simp only [t]
       have HX:=hid hx
       clear hx he
       go_wp2_with (fail)
       refine bodyPost_ret (v:=.tuple #[.int .i32 0,.int .i64 0]) (by simp [results,Tryz.results185,go_sem]) rfl ?_
       exact ⟨by rw [HX.out];rfl,Below.refl _ _⟩
      ·by_cases hx2:191<x
       ·have hx:Z0F b=(0,0):=by
         have t:=HC.out
         rw [Z0T,if_neg (by omega)] at t
         rw [he,Z1D,if_neg (by have:=N.out;omega)]
         simp only [t]
        have HX:=hid hx
        clear hx he
        go_wp2_with (fail)
        refine bodyPost_ret (v:=.tuple #[.int .i32 0,.int .i64 0]) (by simp [results,Tryz.results185,go_sem]) rfl ?_
        exact ⟨by rw [HX.out];rfl,Below.refl _ _⟩
       ·have HE:=hid he
        clear he
        have HC2:Hid (Z0T (b0-224) ((b.drop 1).take (3-1))=Z0T (r*64+x-128) ((b.drop (i+1)).take (3-(i+1)))):=hid (by have t:=HC.out;rwa [Z0T,if_pos (by omega)] at t)
        have hr3:r*64+x-128<128*64 ^ (i+1-1):=by
         have:i=1∨i=2∨i=3:=by omega
         rcases this with rfl|rfl|rfl<;>simp at hr1 ⊢ <;> omega
        clear hr1 HC
        go_wp2_with (fail)
        go_roundg (3-(i+1))
        case measure=>have:=HG.out;omega
        case rel=>exact ⟨i+1,r*64+x-128,by omega,by omega,rfl,by first|rfl|go_num,by go_num,rfl,by omega,hr3,HC2⟩
     ·have ein:i=3:=by omega
      subst ein
      have hc:Z0T (b0-224) ((b.drop 1).take (3-1))=some r:=by rw [HC.out];simp [Z0T]
      have hx:Z0F b=if mayR r=true∧(encR r).length=3 then (r,3) else (0,0):=by
       rw [he,Z1D,if_neg (by have:=N.out;omega)]
       simp only [hc]
      have HX:=hid hx
      clear hx he hc HC hr1 hlt hi hi1
      cases hm:mayR r with
      | false=>
        have HM:=hid hm
        go_wp2_with (go_at_call 177;refine (Z1c r w).mono ?_;rintro e w2 ⟨rfl,rfl⟩;rw [HM.out])
        refine bodyPost_ret (v:=.tuple #[.int .i32 0,.int .i64 0]) (by simp [results,Tryz.results185,go_sem]) rfl ?_
        exact ⟨by rw [HX.out,HM.out];rfl,Below.refl _ _⟩
      | true=>
        have HM:=hid hm
        have hhi:=(Z2C hm).2
        clear hm
        go_wp2_with (first
         | (go_at_call 177;refine (Z1c r w).mono ?_;rintro e w2 ⟨rfl,rfl⟩;rw [HM.out])
         | (go_at_call 261;refine Hid.out ?_))
        refine hid ?_
        refine (Z7s r w hr0 hhi).mono ?_
        rintro e w2 ⟨A2,c2,rfl,rr,y⟩
        obtain ⟨q,hq⟩:∃ q,q=(encR r).length:=⟨_,rfl⟩
        rw [←hq]
        have HQ:=hid hq
        clear hq rr
        by_cases hqk:(q:Int)=3
        ·have hx:Z0F b=(r,3):=by rw [HX.out,if_pos ⟨HM.out,by rw [←HQ.out];omega⟩]
         have HX2:=hid hx
         clear hx
         go_wp2_with (fail)
         refine bodyPost_ret (v:=.tuple #[.int .i32 r,.int .i64 3]) (by simp [results,Tryz.results185,go_sem]) rfl ?_
         exact ⟨by rw [HX2.out];rfl,y⟩
        ·have hx:Z0F b=(0,0):=by rw [HX.out,if_neg (by rw [←HQ.out];omega)]
         have HX2:=hid hx
         clear hx
         go_wp2_with (fail)
         refine bodyPost_ret (v:=.tuple #[.int .i32 0,.int .i64 0]) (by simp [results,Tryz.results185,go_sem]) rfl ?_
         exact ⟨by rw [HX2.out];rfl,y⟩
  ·rw [if_neg h2] at he
   by_cases h3:192≤b0
   ·rw [if_pos h3] at he
    by_cases hk:(n:Int)<2
    ·have hx:Z0F b=(0,0):=by rw [he,Z1D,if_pos (by have:=N.out;omega)]
     have HX:=hid hx
     clear hx he
     go_enter Tryz.func185,Tryz.ntmps185
     go_wp2_with (fail)
     refine bodyPost_ret (v:=.tuple #[.int .i32 0,.int .i64 0]) (by simp [results,Tryz.results185,go_sem]) rfl ?_
     exact ⟨by rw [HX.out];rfl,Below.refl _ _⟩
    ·go_enter Tryz.func185,Tryz.ntmps185
     have hw1:IntKind.i32.wrap b0=b0:=IntWalk.i32_in _ (by omega)
     go_wp2_with (fail)
     clear hw1
     go_loopg [5,6] (2-1) (fun g rv iv wr => ∃ (i:Nat) (r:Int),1≤i∧i≤2∧g=2-i∧rv=.int .i32 r∧iv=.int .i64 (i:Int)∧w=wr∧0≤r∧r<128*64 ^ (i-1)∧Hid (Z0T (b0-192) ((b.drop 1).take (2-1))=Z0T r ((b.drop i).take (2-i))))
     case atStart=>exact ⟨1,b0-192,by omega,by omega,rfl,rfl,rfl,rfl,by omega,by simp;omega,hid rfl⟩
     case round=>
      obtain ⟨i,r,hi1,hi,hg,rfl,rfl,rfl,hr0,hr1,HC⟩:=hrel
      have HG:=hid hg
      clear hg
      by_cases hlt:i<2
      ·have hr2:r≤524287:=by
        have:i=1∨i=2∨i=3:=by omega
        rcases this with rfl|rfl|rfl<;>simp at hr1<;>omega
       obtain ⟨ad',x,ea,_,hdx,hbx,hcx⟩:=h.el (i:=i) (by have:=N.out;omega)
       injection ea with ea
       subst ea
       have x0:w.cell? (ad.add i)=some (.int .u8 x):=by have:=hcx 0 _ rfl;simpa [Z0n] using this
       have hxlo:=(hu x (List.mem_of_getElem? hbx)).1
       have hxhi:=(hu x (List.mem_of_getElem? hbx)).2
       have hil:i<n:=by omega
       have e1:(b.drop i).take (2-i)=x::(b.drop (i+1)).take (2-(i+1)):=by
        rw [hdx,show 2-i=(2-(i+1))+1 by omega,List.take_succ_cons]
       rw [e1] at HC
       clear e1 hcx hdx
       by_cases hx1:x<128
       ·have hx:Z0F b=(0,0):=by
         have t:=HC.out
         rw [Z0T,if_neg (by omega)] at t
         rw [he,Z1D,if_neg (by have:=N.out;omega)]
         simp only [t]
        have HX:=hid hx
        clear hx he
        go_wp2_with (fail)
        refine bodyPost_ret (v:=.tuple #[.int .i32 0,.int .i64 0]) (by simp [results,Tryz.results185,go_sem]) rfl ?_
        exact ⟨by rw [HX.out];rfl,Below.refl _ _⟩
       ·by_cases hx2:191<x
        ·have hx:Z0F b=(0,0):=by
          have t:=HC.out
          rw [Z0T,if_neg (by omega)] at t
          rw [he,Z1D,if_neg (by have:=N.out;omega)]
          simp only [t]
         have HX:=hid hx
         clear hx he
         go_wp2_with (fail)
         refine bodyPost_ret (v:=.tuple #[.int .i32 0,.int .i64 0]) (by simp [results,Tryz.results185,go_sem]) rfl ?_
         exact ⟨by rw [HX.out];rfl,Below.refl _ _⟩
        ·have HE:=hid he
         clear he
         have HC2:Hid (Z0T (b0-192) ((b.drop 1).take (2-1))=Z0T (r*64+x-128) ((b.drop (i+1)).take (2-(i+1)))):=hid (by have t:=HC.out;rwa [Z0T,if_pos (by omega)] at t)
         have hr3:r*64+x-128<128*64 ^ (i+1-1):=by
          have:i=1∨i=2∨i=3:=by omega
          rcases this with rfl|rfl|rfl<;>simp at hr1 ⊢ <;> omega
         clear hr1 HC
         go_wp2_with (fail)
         go_roundg (2-(i+1))
         case measure=>have:=HG.out;omega
         case rel=>exact ⟨i+1,r*64+x-128,by omega,by omega,rfl,by first|rfl|go_num,by go_num,rfl,by omega,hr3,HC2⟩
      ·have ein:i=2:=by omega
       subst ein
       have hc:Z0T (b0-192) ((b.drop 1).take (2-1))=some r:=by rw [HC.out];simp [Z0T]
       have hx:Z0F b=if mayR r=true∧(encR r).length=2 then (r,2) else (0,0):=by
        rw [he,Z1D,if_neg (by have:=N.out;omega)]
        simp only [hc]
       have HX:=hid hx
       clear hx he hc HC hr1 hlt hi hi1
       cases hm:mayR r with
       | false=>
         have HM:=hid hm
         go_wp2_with (go_at_call 177;refine (Z1c r w).mono ?_;rintro e w2 ⟨rfl,rfl⟩;rw [HM.out])
         refine bodyPost_ret (v:=.tuple #[.int .i32 0,.int .i64 0]) (by simp [results,Tryz.results185,go_sem]) rfl ?_
         exact ⟨by rw [HX.out,HM.out];rfl,Below.refl _ _⟩
       | true=>
         have HM:=hid hm
         have hhi:=(Z2C hm).2
         clear hm
         go_wp2_with (first
          | (go_at_call 177;refine (Z1c r w).mono ?_;rintro e w2 ⟨rfl,rfl⟩;rw [HM.out])
          | (go_at_call 261;refine Hid.out ?_))
         refine hid ?_
         refine (Z7s r w hr0 hhi).mono ?_
         rintro e w2 ⟨A2,c2,rfl,rr,y⟩
         obtain ⟨q,hq⟩:∃ q,q=(encR r).length:=⟨_,rfl⟩
         rw [←hq]
         have HQ:=hid hq
         clear hq rr
         by_cases hqk:(q:Int)=2
         ·have hx:Z0F b=(r,2):=by rw [HX.out,if_pos ⟨HM.out,by rw [←HQ.out];omega⟩]
          have HX2:=hid hx
          clear hx
          go_wp2_with (fail)
          refine bodyPost_ret (v:=.tuple #[.int .i32 r,.int .i64 2]) (by simp [results,Tryz.results185,go_sem]) rfl ?_
          exact ⟨by rw [HX2.out];rfl,y⟩
         ·have hx:Z0F b=(0,0):=by rw [HX.out,if_neg (by rw [←HQ.out];omega)]
          have HX2:=hid hx
          clear hx
          go_wp2_with (fail)
          refine bodyPost_ret (v:=.tuple #[.int .i32 0,.int .i64 0]) (by simp [results,Tryz.results185,go_sem]) rfl ?_
          exact ⟨by rw [HX2.out];rfl,y⟩
   ·rw [if_neg h3] at he
    by_cases h4:128≤b0
    ·rw [if_pos h4] at he
     have HX:=hid he
     clear he
     go_enter Tryz.func185,Tryz.ntmps185
     go_wp2_with (fail)
     refine bodyPost_ret (v:=.tuple #[.int .i32 0,.int .i64 0]) (by simp [results,Tryz.results185,go_sem]) rfl ?_
     exact ⟨by rw [HX.out];rfl,Below.refl _ _⟩
    ·rw [if_neg h4] at he
     by_cases hk:(n:Int)<1
     ·have hx:Z0F b=(0,0):=by rw [he,Z1D,if_pos (by have:=N.out;omega)]
      have HX:=hid hx
      clear hx he
      go_enter Tryz.func185,Tryz.ntmps185
      go_wp2_with (fail)
      refine bodyPost_ret (v:=.tuple #[.int .i32 0,.int .i64 0]) (by simp [results,Tryz.results185,go_sem]) rfl ?_
      exact ⟨by rw [HX.out];rfl,Below.refl _ _⟩
     ·go_enter Tryz.func185,Tryz.ntmps185
      have hw1:IntKind.i32.wrap b0=b0:=IntWalk.i32_in _ (by omega)
      go_wp2_with (fail)
      clear hw1
      go_loopg [5,6] (1-1) (fun g rv iv wr => ∃ (i:Nat) (r:Int),1≤i∧i≤1∧g=1-i∧rv=.int .i32 r∧iv=.int .i64 (i:Int)∧w=wr∧0≤r∧r<128*64 ^ (i-1)∧Hid (Z0T b0 ((b.drop 1).take (1-1))=Z0T r ((b.drop i).take (1-i))))
      case atStart=>exact ⟨1,b0,by omega,by omega,rfl,rfl,rfl,rfl,by omega,by simp;omega,hid rfl⟩
      case round=>
       obtain ⟨i,r,hi1,hi,hg,rfl,rfl,rfl,hr0,hr1,HC⟩:=hrel
       have HG:=hid hg
       clear hg
       by_cases hlt:i<1
       ·omega
       ·have ein:i=1:=by omega
        subst ein
        have hc:Z0T b0 ((b.drop 1).take (1-1))=some r:=by rw [HC.out];simp [Z0T]
        have hx:Z0F b=if mayR r=true∧(encR r).length=1 then (r,1) else (0,0):=by
         rw [he,Z1D,if_neg (by have:=N.out;omega)]
         simp only [hc]
        have HX:=hid hx
        clear hx he hc HC hr1 hlt hi hi1
        cases hm:mayR r with
        | false=>
          have HM:=hid hm
          go_wp2_with (go_at_call 177;refine (Z1c r w).mono ?_;rintro e w2 ⟨rfl,rfl⟩;rw [HM.out])
          refine bodyPost_ret (v:=.tuple #[.int .i32 0,.int .i64 0]) (by simp [results,Tryz.results185,go_sem]) rfl ?_
          exact ⟨by rw [HX.out,HM.out];rfl,Below.refl _ _⟩
        | true=>
          have HM:=hid hm
          have hhi:=(Z2C hm).2
          clear hm
          go_wp2_with (first
           | (go_at_call 177;refine (Z1c r w).mono ?_;rintro e w2 ⟨rfl,rfl⟩;rw [HM.out])
           | (go_at_call 261;refine Hid.out ?_))
          refine hid ?_
          refine (Z7s r w hr0 hhi).mono ?_
          rintro e w2 ⟨A2,c2,rfl,rr,y⟩
          obtain ⟨q,hq⟩:∃ q,q=(encR r).length:=⟨_,rfl⟩
          rw [←hq]
          have HQ:=hid hq
          clear hq rr
          by_cases hqk:(q:Int)=1
          ·have hx:Z0F b=(r,1):=by rw [HX.out,if_pos ⟨HM.out,by rw [←HQ.out];omega⟩]
           have HX2:=hid hx
           clear hx
           go_wp2_with (fail)
           refine bodyPost_ret (v:=.tuple #[.int .i32 r,.int .i64 1]) (by simp [results,Tryz.results185,go_sem]) rfl ?_
           exact ⟨by rw [HX2.out];rfl,y⟩
          ·have hx:Z0F b=(0,0):=by rw [HX.out,if_neg (by rw [←HQ.out];omega)]
           have HX2:=hid hx
           clear hx
           go_wp2_with (fail)
           refine bodyPost_ret (v:=.tuple #[.int .i32 0,.int .i64 0]) (by simp [results,Tryz.results185,go_sem]) rfl ?_
           exact ⟨by rw [HX2.out];rfl,y⟩
def encB (u:UInt8):List Value:=[.int .u8 (u.toNat:Int)]
abbrev RdB:=@Rd UInt8 encB 1
theorem Y4U (a:UInt8):(encB a).length=1:=rfl
section
variable {w:World} {B:Nat} {ad:Addr} {t:List UInt8}
theorem RdB.at0 (h:RdB w B (some ad) t) (hi:0<t.length):w.cell? ad=some (.int .u8 (t[0].toNat:Int)):=by
 obtain ⟨ad',e,_,hc⟩:=h hi
 injection e with e
 subst e
 have:=hc 0 hi 0 _ rfl
 simpa [Z0n] using this
theorem RdB.atS (h:RdB w B (some ad) t) (i:Nat) (hi:i+1<t.length):w.cell? { block:=ad.block,off:=ad.off+(i+1) }=some (.int .u8 (t[i+1].toNat:Int)):=by
 obtain ⟨ad',e,_,hc⟩:=h (by omega)
 injection e with e
 subst e
 have:=hc (i+1) hi 0 _ rfl
 rw [Z0n,Nat.mul_one] at this
 simpa [Addr.add] using this
end
theorem Y73 {t:List UInt8} (h:8≤t.length):t.take 8=[t[0]'(by omega),t[1]'(by omega),t[2]'(by omega),t[3]'(by omega),t[4]'(by omega),t[5]'(by omega),t[6]'(by omega),t[7]'(by omega)]:=by
 match t,h with
 | a0::a1::a2::a3::a4::a5::a6::a7::r,_=>simp
theorem Z21 (A:Option Addr) (n c B:Nat) (t:List UInt8) (w:World) (hn:n=t.length) (h8:8≤n) (h:RdB w B A t) :
 Calls Tryz.prog 267 #[.slice A n c] w fun e w'=>e=.returned (.int .u64 ((Lib.leNat (t.take 8):Nat):Int))∧∃ q,w'=w.drewN q:=by
 have N:=hid hn
 have hl:8≤t.length:=by omega
 obtain ⟨ad,rfl,_⟩:=h (by omega)
 clear hn
 obtain ⟨x0,hx0⟩:∃ x,t[0]'(by omega)=x:=⟨_,rfl⟩
 have c0:=h.at0 (by omega)
 rw [hx0] at c0
 have l0:x0.toNat<256:=x0.toNat_lt
 obtain ⟨x1,hx1⟩:∃ x,t[1]'(by omega)=x:=⟨_,rfl⟩
 have c1:=h.atS 0 (by omega)
 simp only [Nat.reduceAdd] at c1
 rw [hx1] at c1
 have l1:x1.toNat<256:=x1.toNat_lt
 obtain ⟨x2,hx2⟩:∃ x,t[2]'(by omega)=x:=⟨_,rfl⟩
 have c2:=h.atS 1 (by omega)
 simp only [Nat.reduceAdd] at c2
 rw [hx2] at c2
 have l2:x2.toNat<256:=x2.toNat_lt
 obtain ⟨x3,hx3⟩:∃ x,t[3]'(by omega)=x:=⟨_,rfl⟩
 have c3:=h.atS 2 (by omega)
 simp only [Nat.reduceAdd] at c3
 rw [hx3] at c3
 have l3:x3.toNat<256:=x3.toNat_lt
 obtain ⟨x4,hx4⟩:∃ x,t[4]'(by omega)=x:=⟨_,rfl⟩
 have c4:=h.atS 3 (by omega)
 simp only [Nat.reduceAdd] at c4
 rw [hx4] at c4
 have l4:x4.toNat<256:=x4.toNat_lt
 obtain ⟨x5,hx5⟩:∃ x,t[5]'(by omega)=x:=⟨_,rfl⟩
 have c5:=h.atS 4 (by omega)
 simp only [Nat.reduceAdd] at c5
 rw [hx5] at c5
 have l5:x5.toNat<256:=x5.toNat_lt
 obtain ⟨x6,hx6⟩:∃ x,t[6]'(by omega)=x:=⟨_,rfl⟩
 have c6:=h.atS 5 (by omega)
 simp only [Nat.reduceAdd] at c6
 rw [hx6] at c6
 have l6:x6.toNat<256:=x6.toNat_lt
 obtain ⟨x7,hx7⟩:∃ x,t[7]'(by omega)=x:=⟨_,rfl⟩
 have c7:=h.atS 6 (by omega)
 simp only [Nat.reduceAdd] at c7
 rw [hx7] at c7
 have l7:x7.toNat<256:=x7.toNat_lt
 have ht:t.take 8=[x0,x1,x2,x3,x4,x5,x6,x7]:=by
  rw [Y73 hl,hx0,hx1,hx2,hx3,hx4,hx5,hx6,hx7]
 rw [ht]
 have hv:((Lib.leNat [x0,x1,x2,x3,x4,x5,x6,x7]:Nat):Int)=(x0.toNat:Int)+(x1.toNat:Int)*256+(x2.toNat:Int)*65536+(x3.toNat:Int)*16777216+(x4.toNat:Int)*4294967296+(x5.toNat:Int)*1099511627776+(x6.toNat:Int)*281474976710656+(x7.toNat:Int)*72057594037927936:=by
  simp only [Lib.leNat]
  push_cast
  omega
 have HV:=hid hv
 clear hv ht hx0 hx1 hx2 hx3 hx4 hx5 hx6 hx7
 have q0:(0:Int)<(n:Int):=by omega
 have p0:0<n:=by omega
 have q1:(1:Int)<(n:Int):=by omega
 have p1:1<n:=by omega
 have q2:(2:Int)<(n:Int):=by omega
 have p2:2<n:=by omega
 have q3:(3:Int)<(n:Int):=by omega
 have p3:3<n:=by omega
 have q4:(4:Int)<(n:Int):=by omega
 have p4:4<n:=by omega
 have q5:(5:Int)<(n:Int):=by omega
 have p5:5<n:=by omega
 have q6:(6:Int)<(n:Int):=by omega
 have p6:6<n:=by omega
 have q7:(7:Int)<(n:Int):=by omega
 have p7:7<n:=by omega
 go_enter Tryz.func267,Tryz.ntmps267
 go_wp2_with (fail)
 go_quiet (fail)
 go_wp2_with (fail)
 go_ret
 refine ⟨?_,_,rfl⟩
 simp (disch:=omega) only [u64_wrap_id,u64_or8,u64_or16,u64_or24,u64_or32,u64_or40,u64_or48,u64_or56]
 rw [HV.out]
 rfl
open Go.RowKit
set_option linter.unusedVariables false
set_option linter.unusedSimpArgs false
def ascL (t:List UInt8) (k:Nat):Prop := ∀ b∈t.take k,b.toNat<128
theorem Z17 {t:List UInt8} (h:8≤t.length):(Lib.leNat (t.take 8)&&&9259542123273814144=0)↔ascL t 8:=by
 have h8:(t.take 8).length=8:=by rw [List.length_take];omega
 have:=Lib.leNat_mask (t.take 8)
 rw [h8,Lib.maskN8] at this
 exact this
theorem Z5q {t:List UInt8} {a b:Nat} (ha:ascL t a) (hb:ascL (t.drop a) b):ascL t (a+b):=by
 unfold ascL at *
 rw [List.take_add]
 intro x hx
 rcases List.mem_append.1 hx with h|h
 ·exact ha x h
 ·exact hb x h
theorem Y4V {t:List UInt8} (h0:0<t.length) (h:(t[0]'h0).toNat<128):ascL t 1:=by
 match t,h0 with
 | a::r,_=>
   intro b hb
   simp at hb h
   subst hb
   exact h
theorem Z4c {t:List UInt8} {k:Nat} (h:ascL t k):Lib.validD (t.drop k)=Lib.validD t:=(Lib.validD_ascii k t h).symm
theorem Z5S (t:List UInt8):Lib.leNat (t.take 8)<18446744073709551616:=by
 have h:=Lib.leNat_lt (t.take 8)
 refine Nat.lt_of_lt_of_le h ?_
 rw [show (18446744073709551616:Nat)=256 ^ 8 from by decide]
 exact Nat.pow_le_pow_right (by omega) (by rw [List.length_take];omega)
theorem Z0f {B:Nat} {a w:World} {n:Nat} (h:Below B a w):Below B a (w.drewN n):=h.trans ⟨rfl,rfl,rfl,Nat.le_refl _,fun _ _=>rfl⟩
theorem and7:∀ X:Fin 256,bits .and .u8 ((X.val:Nat):Int) 7=((X.val % 8:Nat):Int):=by decide
theorem Z7u (l:List UInt8) (i:Nat) (h:i<l.length):l.getD i 0=l[i]:=by simp [List.getD,h]
theorem Z0Y {P:Program} {f:FuncId} {args:Array Value} {w:World} {p q:Nat} {v:Value}
 (h:Calls P f args (w.drewN (p+q)) fun e w'=>e=.returned v∧∃ k,w'=(w.drewN (p+q)).drewN k):Calls P f args (w.drewN (p+q)) fun e w'=>e=.returned v∧∃ k,w'=w.drewN (p+k):=
 h.mono fun _ _ ⟨h1,k,h2⟩=>⟨h1,q+k,by rw [h2,World.drewN_drewN];congr 1;omega⟩
def adv (A:Option Addr) (n k:Nat):Option Addr:=if n=k then A else A.map (·.add (k*1))
theorem Z3p {w:World} {B n k:Nat} {A:Option Addr} {t:List UInt8} (h:RdB w B A t) (hn:n=t.length) (hk:k≤n):RdB w B (adv A n k) (t.drop k):=by
 subst hn
 exact h.cut hk (Nat.le_refl _)
theorem Tryz.elU8:Tryz.prog.elem 55=5:=by kernel_rfl
theorem size_u8 (W:World):(sizeOf 5).run Tryz.prog W=.ok 1 W:=by
 obtain ⟨i0,hi0,hz0,hz1,hz2⟩:=Z5O Tryz.infoU8
 simp [sizeOf,typeInfo,hi0,hz1]
theorem Z18 {A A':Option Addr} {n k n':Nat} {z:Int} (hz:z=(k:Int)) (hA:adv A n k=A') (hn:n-k=n') (hk:k≤n) (W:World):(Instr.slice 55 (.slice A n n) (some (.int .i64 z)) none none).run Tryz.prog W=.ok (.slice A' n' n') W:=by
 subst hz;subst hA;subst hn
 rw [run_slice_l W _ A n n (by rw [Tryz.elU8];exact Tryz.slU8) .i64 (k:Int) (by omega) (by omega),Tryz.elU8,size_u8]
 simp [sliced,adv,Result.andThen]
theorem Y74 (A:Option Addr) (n c:Nat) (hc:n≤c) (W:World):(Instr.slice 55 (.slice A n c) none (some (.int .i64 (n:Int))) (some (.int .i64 (n:Int)))).run Tryz.prog W=.ok (.slice A n n) W:=by
 rw [run_slice_hm W _ A n c (by rw [Tryz.elU8];exact Tryz.slU8) .i64 .i64 (n:Int) (n:Int) (by omega) (by omega) (by omega),Tryz.elU8,size_u8]
 cases A<;>simp [sliced,Result.andThen,Z0n]
theorem Y0z {r:Int} (h:r<128):encR r=[r]:=by rw [encR,if_pos h]
theorem Y0A {r:Int} (h:¬ r<128) (h2:r<2048):encR r=[192+r / 64,128+r % 64]:=by rw [encR,if_neg h,if_pos h2]
theorem Y0B {r:Int} (h:¬ r<2048) (h2:r<65536):encR r=[224+r / 4096,128+r / 64 % 64,128+r % 64]:=by rw [encR,if_neg (by omega),if_neg h,if_pos h2]
theorem Y0C {r:Int} (h:¬ r<65536):encR r=[240+r / 262144,128+r / 4096 % 64,128+r / 64 % 64,128+r % 64]:=by rw [encR,if_neg (by omega),if_neg (by omega),if_neg h]
theorem Z2G {r:Int}:(encR r).length=if r<128 then 1 else if r<2048 then 2 else if r<65536 then 3 else 4:=by
 unfold encR
 repeat' split
 all_goals rfl
theorem Z7v {n:Nat} {r0 r:Int} {b:List Int} (hl:n≤b.length) (hc:Z0T r0 ((b.drop 1).take (n-1))=some r) (hm:mayR r=true) (he:(encR r).length=n):Z1D n r0 b=(r,n):=by
 unfold Z1D
 rw [if_neg (by omega),hc]
 exact if_pos ⟨hm,he⟩
theorem Z16 {r x:Int} {t:List Int} (h:128≤x) (h2:x≤191):Z0T r (x::t)=Z0T (r*64+x-128) t:=by rw [Z0T,if_pos ⟨h,h2⟩]
theorem Y0D {r:Int} (h:mayR r=true) (rest:List Int):Z0F (encR r++rest)=(r,(encR r).length):=by
 have hb:=Z2C h
 by_cases h1:r<128
 ·have hl:(encR r).length=1:=by rw [Z2G,if_pos h1]
  rw [hl]
  have e:encR r++rest=r::rest:=by rw [Y0z h1];rfl
  rw [e,Z15 (b0:=r) rfl,if_neg (by omega),if_neg (by omega),if_neg (by omega),if_neg (by omega)]
  exact Z7v (by simp) (by simp [Z0T]) h hl
 ·by_cases h2:r<2048
  ·have hl:(encR r).length=2:=by rw [Z2G,if_neg h1,if_pos h2]
   rw [hl]
   have e:encR r++rest=(192+r / 64)::(128+r % 64)::rest:=by rw [Y0A h1 h2];rfl
   rw [e,Z15 (b0:=192+r / 64) rfl,if_neg (by omega),if_neg (by omega),if_pos (by omega)]
   refine Z7v (by simp) ?_ h hl
   simp only [List.drop_succ_cons,List.drop_zero,Nat.reduceSub,List.take_succ_cons,List.take_zero]
   rw [Z16 (by omega) (by omega)]
   rw [Z0T];congr 1;omega
  ·by_cases h3:r<65536
   ·have hl:(encR r).length=3:=by rw [Z2G,if_neg h1,if_neg h2,if_pos h3]
    rw [hl]
    have e:encR r++rest=(224+r / 4096)::(128+r / 64 % 64)::(128+r % 64)::rest:=by rw [Y0B h2 h3];rfl
    rw [e,Z15 (b0:=224+r / 4096) rfl,if_neg (by omega),if_pos (by omega)]
    refine Z7v (by simp) ?_ h hl
    simp only [List.drop_succ_cons,List.drop_zero,Nat.reduceSub,List.take_succ_cons,List.take_zero]
    rw [Z16 (by omega) (by omega),Z16 (by omega) (by omega)]
    rw [Z0T];congr 1;omega
   ·have hl:(encR r).length=4:=by rw [Z2G,if_neg h1,if_neg h2,if_neg h3]
    rw [hl]
    have e:encR r++rest=(240+r / 262144)::(128+r / 4096 % 64)::(128+r / 64 % 64)::(128+r % 64)::rest:=by rw [Y0C h3];rfl
    rw [e,Z15 (b0:=240+r / 262144) rfl,if_pos (by omega)]
    refine Z7v (by simp) ?_ h hl
    simp only [List.drop_succ_cons,List.drop_zero,Nat.reduceSub,List.take_succ_cons,List.take_zero]
    rw [Z16 (by omega) (by omega),Z16 (by omega) (by omega),Z16 (by omega) (by omega)]
    rw [Z0T];congr 1;omega
theorem Z5r {n:Nat} {r0 r:Int} {m:Nat} {b:List Int} (h:Z1D n r0 b=(r,m)) (hm:m≠0):n≤b.length∧Z0T r0 ((b.drop 1).take (n-1))=some r∧mayR r=true∧(encR r).length=n∧m=n:=by
 unfold Z1D at h
 split at h
 ·injection h with _ h;exact absurd h.symm hm
 ·rename_i hl
  split at h
  ·injection h with _ h;exact absurd h.symm hm
  ·rename_i r' hc
   split at h
   ·rename_i hh
    injection h with h h'
    subst h;subst h'
    exact ⟨by omega,hc,hh.1,hh.2,rfl⟩
   ·injection h with _ h;exact absurd h.symm hm
theorem Z2H {r x r':Int} {t:List Int} (h:Z0T r (x::t)=some r'):128≤x∧x≤191∧Z0T (r*64+x-128) t=some r':=by
 rw [Z0T] at h
 split at h
 ·rename_i hh;exact ⟨hh.1,hh.2,h⟩
 ·cases h
theorem Z5s {b:List Int} {r:Int} {n:Nat} (hu:∀ x∈b,0≤x∧x≤255) (h:Z0F b=(r,n)) (hn:n≠0):mayR r=true∧n=(encR r).length∧b=encR r++b.drop n:=by
 cases b with
 | nil=>
   have e:Z0F []=(0,0):=rfl
   rw [e] at h
   injection h with _ h
   exact absurd h.symm hn
 | cons b0 t=>
   have h0:=hu b0 (by simp)
   rw [Z15 (b0:=b0) rfl] at h
   split at h
   ·rename_i c0
    obtain ⟨h1,h2,h3,h4,rfl⟩:=Z5r h hn
    refine ⟨h3,h4.symm,?_⟩
    match t,h1 with
    | x1::x2::x3::t',_=>
      simp only [List.drop_succ_cons,List.drop_zero,Nat.reduceSub,List.take_succ_cons,List.take_zero] at h2
      obtain ⟨a1,a2,h2⟩:=Z2H h2
      obtain ⟨a3,a4,h2⟩:=Z2H h2
      obtain ⟨a5,a6,h2⟩:=Z2H h2
      rw [Z0T] at h2
      injection h2 with h2
      have hr:¬ r<65536:=by rw [Z2G] at h4;intro hc;split at h4<;>(try (split at h4))<;>(try (split at h4))<;>omega
      rw [Y0C hr]
      simp only [List.drop_succ_cons,List.drop_zero,List.cons_append,List.nil_append,List.cons.injEq,and_true]
      omega
   ·rename_i c0
    split at h
    ·rename_i c1
     obtain ⟨h1,h2,h3,h4,rfl⟩:=Z5r h hn
     refine ⟨h3,h4.symm,?_⟩
     match t,h1 with
     | x1::x2::t',_=>
       simp only [List.drop_succ_cons,List.drop_zero,Nat.reduceSub,List.take_succ_cons,List.take_zero] at h2
       obtain ⟨a1,a2,h2⟩:=Z2H h2
       obtain ⟨a3,a4,h2⟩:=Z2H h2
       rw [Z0T] at h2
       injection h2 with h2
       have hr:¬ r<2048∧r<65536:=by rw [Z2G] at h4;(split at h4<;>(try (split at h4))<;>(try (split at h4)))<;>omega
       rw [Y0B hr.1 hr.2]
       simp only [List.drop_succ_cons,List.drop_zero,List.cons_append,List.nil_append,List.cons.injEq,and_true]
       omega
    ·rename_i c1
     split at h
     ·rename_i c2
      obtain ⟨h1,h2,h3,h4,rfl⟩:=Z5r h hn
      refine ⟨h3,h4.symm,?_⟩
      match t,h1 with
      | x1::t',_=>
        simp only [List.drop_succ_cons,List.drop_zero,Nat.reduceSub,List.take_succ_cons,List.take_zero] at h2
        obtain ⟨a1,a2,h2⟩:=Z2H h2
        rw [Z0T] at h2
        injection h2 with h2
        have hr:¬ r<128∧r<2048:=by rw [Z2G] at h4;(split at h4<;>(try (split at h4))<;>(try (split at h4)))<;>omega
        rw [Y0A hr.1 hr.2]
        simp only [List.drop_succ_cons,List.drop_zero,List.cons_append,List.nil_append,List.cons.injEq,and_true]
        omega
     ·rename_i c2
      split at h
      ·injection h with _ h;exact absurd h.symm hn
      ·rename_i c3
       obtain ⟨h1,h2,h3,h4,rfl⟩:=Z5r h hn
       refine ⟨h3,h4.symm,?_⟩
       simp only [List.drop_succ_cons,List.drop_zero,Nat.reduceSub,List.take_zero,Z0T] at h2
       injection h2 with h2
       subst h2
       rw [Y0z (by omega)]
       rfl
def Z5T:Nat→List Int→Option (List Int)
 | 0,b=>if b=[] then some [] else none
 | n+1,b=>if b=[] then some [] else if (Z0F b).2=0 then none else (Z5T n (b.drop (Z0F b).2)).map ((Z0F b).1 :: ·)
def Z1f (b:List Int):Option (List Int):=Z5T b.length b
theorem Z2I (n:Nat):Z5T n []=some []:=by cases n<;>simp [Z5T]
theorem Z5U:∀ (n m:Nat) (b:List Int),b.length≤n→b.length≤m→Z5T n b=Z5T m b
 | 0,m,b,hn,_=>by
   obtain rfl:b=[]:=List.eq_nil_of_length_eq_zero (by omega)
   rw [Z2I,Z2I]
 | n+1,0,b,_,hm=>by
   obtain rfl:b=[]:=List.eq_nil_of_length_eq_zero (by omega)
   rw [Z2I,Z2I]
 | n+1,m+1,b,hn,hm=>by
   unfold Z5T
   by_cases hne:b=[]
   ·simp [hne]
   ·rw [if_neg hne,if_neg hne]
    by_cases hz:(Z0F b).2=0
    ·rw [if_pos hz,if_pos hz]
    ·have hl:0<b.length:=List.length_pos_iff.2 hne
     rw [if_neg hz,if_neg hz,Z5U n m _ (by rw [List.length_drop];omega) (by rw [List.length_drop];omega)]
theorem Z5V:Z1f []=some []:=Z2I 0
theorem Z3H {b:List Int} (hne:b≠[]):Z1f b=if (Z0F b).2=0 then none else (Z1f (b.drop (Z0F b).2)).map ((Z0F b).1 :: ·):=by
 have hl:0<b.length:=List.length_pos_iff.2 hne
 obtain ⟨n,hn⟩:∃ n,b.length=n+1:=⟨b.length-1,by omega⟩
 unfold Z1f
 rw [hn]
 show (if b=[] then some [] else _)=_
 rw [if_neg hne]
 by_cases hz:(Z0F b).2=0
 ·rw [if_pos hz,if_pos hz]
 ·rw [if_neg hz,if_neg hz,Z5U n (b.drop (Z0F b).2).length _ (by rw [List.length_drop];omega) (Nat.le_refl _)]
theorem Y6U (r:Int):encR r≠[]:=fun h=>by have:=(Z3G r).1;rw [h] at this;simp at this
theorem Z6U:∀ (l:List Int) (rest:List Int),okR l=true→Z1f (Z0D l++rest)=(Z1f rest).map (l ++ ·)
 | [],rest,_=>by
   show Z1f rest=_
   cases Z1f rest<;>rfl
 | r::l,rest,h=>by
   have hr:mayR r=true∧okR l=true:=by simpa [okR] using h
   have e:Z0D (r::l)++rest=encR r++(Z0D l++rest):=by simp [Z0D]
   have hn:=Y0D hr.1 (Z0D l++rest)
   rw [e,Z3H (by simp [Y6U]),hn]
   have hl:=(Z3G r).1
   simp only [List.drop_left]
   rw [if_neg (by omega),Z6U l rest hr.2]
   cases Z1f rest<;>rfl
theorem Y2T {l:List Int} (h:okR l=true):Z1f (Z0D l)=some l:=by
 have:=Z6U l [] h
 rw [List.append_nil,Z5V] at this
 simpa using this
theorem Z6V:∀ (n:Nat) (b l:List Int),b.length≤n→(∀ x∈b,0≤x∧x≤255)→Z1f b=some l→okR l=true∧Z0D l=b
 | n,[],l,_,_,h=>by
   rw [Z5V] at h
   injection h with h
   subst h
   exact ⟨rfl,rfl⟩
 | 0,b0::t,l,hn,_,_=>absurd hn (by simp)
 | n+1,b0::t,l,hn,hu,h=>by
   rw [Z3H (by simp)] at h
   by_cases hz:(Z0F (b0::t)).2=0
   ·rw [if_pos hz] at h;cases h
   ·rw [if_neg hz] at h
    obtain ⟨l',hl',rfl⟩:=Option.map_eq_some_iff.1 h
    have ⟨h1,h2,h3⟩:=Z5s hu (r:=(Z0F (b0::t)).1) (n:=(Z0F (b0::t)).2) rfl hz
    have ih:=Z6V n _ l' (by rw [List.length_drop];simp only [List.length_cons] at *;omega) (fun x hx=>hu x (List.mem_of_mem_drop hx)) hl'
    refine ⟨?_,?_⟩
    ·have h4:=ih.1
     unfold okR at h4 ⊢
     rw [List.all_cons,h4,h1]
     rfl
    ·show encR _++Z0D l'=_
     rw [ih.2]
     exact h3.symm
theorem Z7w {b l:List Int} (hu:∀ x∈b,0≤x∧x≤255) (h:Z1f b=some l):okR l=true∧Z0D l=b:=Z6V b.length b l (Nat.le_refl _) hu h
end Go.Proofs.YtnmedachaeanbaaGreatDoor
