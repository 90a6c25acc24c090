/- Merged texts. -/
import Derived.Test.YtnmedachaeanbaaGreatDoorB17
import Derived.Test.YtnmedachaeanbaaGreatDoorB16
namespace Go.Proofs.YtnmedachaeanbaaGreatDoor
set_option maxRecDepth 100000
set_option maxHeartbeats 3200000
open Go.RowKit
open Go.Lib (hid Utf8Tabs)
set_option linter.unusedVariables false
set_option linter.unusedSimpArgs false
theorem Sch.at_ {v W w':World} {s:Nat} {l:List Ky} (h:Sch v s l) (y:Below W.heap.size W w') (e:W.heap=v.heap):Sch w' s l:=by
 have hc:∀ p,W.cell? p=v.cell? p:=fun p=>by simp only [World.cell?,e]
 have h':Sch W s l:=by
  obtain ⟨bm,A,n,c,ls,hb,⟨es,clock,hm,hk⟩,hn,hp,hs,hr⟩:=h
  exact ⟨bm,A,n,c,ls,by rw [e];exact hb,⟨es,clock,by rw [e];exact hm,hk⟩,hn,hp,hs,by rw [e];exact hr.keep fun p _=>hc p⟩
 exact h'.ext y
def okC (c:Ch):Bool:=if c.gone=true then beqV c.v V.zero else mayV c.v
def Z0A (l:List Ky) (c:Ch):Bool:=(Z0O l c.key).isSome&&(c.gone || Z2o l c.key c.v)
def mayP (l:List Ky) (p:List Ch):Int:=if 64<p.length then 3 else if Z3Y p=true∧p.all okC=true then (if p.all (Z0A l)=true then 0 else 4) else 3
def Z4K (l:List Ky):Option Int→Int→List Ch→Int
 | _,e,[]=>e
 | prev,e,c::r=>if (prev.all (fun k=>decide (k<c.key))&&okC c)=true then Z4K l (some c.key) (if Z0A l c=true then e else 4) r else 3
theorem Z66 (l:List Ky):∀ (p:List Ch) (k:Int) (e:Int),Z4K l (some k) e p=if rise (k::p.map (·.key))=true∧p.all okC=true then (if p.all (Z0A l)=true then e else 4) else 3
 | [],k,e=>by simp [Z4K,rise]
 | c::r,k,e=>by
   unfold Z4K
   rw [Z66 l r c.key]
   by_cases h1:k<c.key
   ·by_cases h2:okC c=true
    ·by_cases h3:Z0A l c=true
     ·simp [h1,h2,h3,rise]
     ·have h3:Z0A l c=false:=by simpa using h3
      simp [h1,h2,h3,rise]
    ·have h2:okC c=false:=by simpa using h2
     simp [h1,h2]
   ·simp [h1,rise]
theorem Y10 (l:List Ky) (p:List Ch) (h:p.length≤64):Z4K l none 0 p=mayP l p:=by
 unfold mayP
 rw [if_neg (by omega)]
 cases p with
 | nil=>simp [Z4K,Z3Y,rise]
 | cons c r=>
   unfold Z4K
   rw [Z66]
   by_cases h2:okC c=true
   ·by_cases h3:Z0A l c=true
    ·simp [h2,h3,Z3Y]
    ·have h3:Z0A l c=false:=by simpa using h3
     simp [h2,h3,Z3Y]
   ·have h2:okC c=false:=by simpa using h2
    simp [h2]
def okVc (p:List Ch):Prop := ∀ c∈p,okV c.v
def okVs (p:List Ch):Prop := ∀ c∈p,okV c.v∧c.v.s.size≤100000000
theorem Y3v (s:Nat) (l:List Ky) (A:Option Addr) (n c:Nat) (p:List Ch) (w:World) (hn:n=p.length) (h:RdCh w w.heap.size A p) (hb:n≤140737488355328) (hS:Sch w s l) (hv:okVc p) (hT:Utf8Tabs 0 1 w) :
 Calls Tryz.prog 107 #[.pointer (some ⟨s,0,none⟩),.slice A n c] w fun e w'=>e=.returned (.int .i64 (mayP l p))∧Below w.heap.size w w':=by
 have N:=hid hn
 generalize hR:mayP l p=R
 have HR:=hid hR
 clear hn hR
 by_cases h64:(64:Int)<(n:Int)
 ·go_enter Tryz.func107,Tryz.ntmps107
  go_wp2_with (fail)
  go_ret
  refine ⟨Z0k ?_,Below.refl _ _⟩
  rw [←HR.out]
  have:=N.out
  unfold mayP
  rw [if_pos (by omega)]
 have HP:Hid (Z4K l none 0 p=R):=hid (by rw [←HR.out];exact Y10 l p (by have:=N.out;omega))
 go_enter Tryz.func107,Tryz.ntmps107
 go_wp2_with (fail)
 go_loopg [5,15] n (fun g ev iv wr => ∃ (m:Nat) (ei:Int),m≤n∧g=n-m∧ev=.int .i64 ei∧iv=.int .i64 (m:Int)∧Below w.heap.size w wr∧Hid (Z4K l (if m=0 then none else (p[m-1]?).map (·.key)) ei (p.drop m)=R))
 case atStart=>exact ⟨0,0,by omega,rfl,rfl,rfl,Below.refl _ _,hid (by rw [List.drop_zero];exact HP.out)⟩
 case round=>
  obtain ⟨m,ei,hm,hg,rfl,rfl,y,HI⟩:=hrel
  have HG:=hid hg
  clear hg HR HP
  by_cases hlt:m<n
  ·have hl1:m<p.length:=by have:=N.out;omega
   obtain ⟨ad,x,rfl,had,hd1,hx1,hc0⟩:=(h.below y (Nat.le_refl _)).el hl1
   have hxv:=hv x (List.mem_of_getElem? hx1)
   obtain ⟨x1,g,x2,x3,x4,x5⟩:=x
   obtain ⟨r0,r1,r2,r3,r4,r5⟩:=Z0I hc0
   obtain ⟨f0,f1⟩:0≤x4∧x4<18446744073709551616:=⟨hxv.f0,hxv.f1⟩
   have HI2:Hid ((if ((if m=0 then none else (p[m-1]?).map (·.key)).all (fun k=>decide (k<x1))&&okC ⟨x1,g,x2,x3,x4,x5⟩)=true then Z4K l (some x1) (if Z0A l ⟨x1,g,x2,x3,x4,x5⟩=true then ei else 4) (p.drop (m+1)) else 3)=R):=hid (by
    rw [←HI.out,hd1];rfl)
   have HX:=hid hx1
   have y2:=Z0b wr (.cells #[.int .i64 x1,.bool g,.int .u8 x2,.int .i64 x3,.int .u64 x4,.string x5] 75)
   have hk2:=heap_alloc_new wr (.cells #[.int .i64 x1,.bool g,.int .u8 x2,.int .i64 x3,.int .u64 x4,.string x5] 75)
   have HK2:=hid hk2
   have HS2:=hid ((hS.ext y).ext y2)
   have HT2:=hid (Utf8Tabs_below (Utf8Tabs_below hT y) y2)
   clear hc0 hd1 hx1 HI hk2 hxv
   have hw2:IntKind.i64.wrap ((m:Int)+1)=(m:Int)+1:=IntWalk.i64_in _ (by omega)
   go_wp2_with (go_at_call 127;refine Hid.out ?_)
   refine hid ?_
   generalize hw0:wr.alloc _=w0 at *
   clear hw0
   refine (Z4e s l x1 w0 HS2.out).mono ?_
   rintro e w3 ⟨k1,k2,k3,k4,k5,k6,q,rfl,hq1,hq2,y3⟩
   have HQ2:=hid hq2
   have y4:=Z0b w3 (.cells #[.int .i64 k1,.bool k2,.int .u8 k3,.bool k4,.bool k5,.int .i64 k6] 78)
   have hk5:=(y4.block _ (Z0c ((y3.block _ (Z0c HK2.out)).trans HK2.out))).trans ((y3.block _ (Z0c HK2.out)).trans HK2.out)
   have y5:=Z0a y (Z0a y2 (Z0a y3 y4))
   have HS5:=hid (HS2.out.ext (Z0a y3 y4))
   have HT5:=hid (Utf8Tabs_below HT2.out (Z0a y3 y4))
   have hh5:=h.below y5 (Nat.le_refl _)
   obtain ⟨b0,b1,b2,b3,b4,b5⟩:=Z4a hk5
   have HK5:=hid hk5
   clear hk5 hq1 hq2 r0 r1 r2 r3 r4 r5 HK2 HS2 HT2
   cases m with
   | zero=>
     have HI3:Hid ((if okC ⟨x1,g,x2,x3,x4,x5⟩=true then Z4K l (some x1) (if Z0A l ⟨x1,g,x2,x3,x4,x5⟩=true then ei else 4) (p.drop (0+1)) else 3)=R):=hid (by rw [←HI2.out];simp)
     clear HI2
     go_wp2_with (fail)
     go_quiet (fail)
     cases g with
     | true=>
       cases hz:beqV ⟨x2,x3,x4,x5⟩ ⟨0,0,0,⟨#[]⟩⟩ with
       | false=>
         have hok:okC ⟨x1,true,x2,x3,x4,x5⟩=false:=hz
         have HOK:=hid hok
         clear hok
         go_wp2_with (fail)
         go_ret
         exact ⟨Z0k (by rw [←HI3.out];rw [HOK.out];rfl),y5.trans (Z0m _ _ |>.mono (y5.size))⟩
       | true=>
         have hok:okC ⟨x1,true,x2,x3,x4,x5⟩=true:=hz
         have HOK:=hid hok
         clear hok
         have HTH:Hid (Z0A l ⟨x1,true,x2,x3,x4,x5⟩=q):=hid (by unfold Z0A;rw [HQ2.out];simp)
         cases q with
         | false=>
           go_wp2_with (fail)
           go_roundg (n-(0+1))
           case measure=>have:=HG.out;omega
           case rel=>exact ⟨0+1,4,by omega,rfl,rfl,by go_num,y5.trans ((Z0m _ _).mono y5.size),hid (by rw [←HI3.out,if_neg (show ¬ (0+1=0) by omega),Nat.add_sub_cancel,HX.out];rw [HOK.out,HTH.out];rfl)⟩
         | true=>
           go_wp2_with (fail)
           go_roundg (n-(0+1))
           case measure=>have:=HG.out;omega
           case rel=>exact ⟨0+1,ei,by omega,rfl,rfl,by go_num,y5.trans ((Z0m _ _).mono y5.size),hid (by rw [←HI3.out,if_neg (show ¬ (0+1=0) by omega),Nat.add_sub_cancel,HX.out];rw [HOK.out,HTH.out];rfl)⟩
     | false=>
       go_wp2_with (go_at_call 122;refine Hid.out ?_)
       refine hid ?_
       refine (Z5t x2 x3 x4 x5 _ f0 f1 ?tb).mono ?_
       case tb=>exact Z4G hT y5 rfl
       rintro e w6 ⟨rfl,y6⟩
       have HOK:Hid (okC ⟨x1,false,x2,x3,x4,x5⟩=mayV ⟨x2,x3,x4,x5⟩):=hid rfl
       generalize mayV ⟨x2,x3,x4,x5⟩=M at HOK ⊢
       have yy6:=Z2r y5 y6 rfl rfl rfl rfl
       have hk6:=Y4Z HK5.out y6 rfl
       have HS6:=hid (Sch.at_ HS5.out y6 rfl)
       clear b0 b1 b2 b3 b4 b5
       obtain ⟨b0,b1,b2,b3,b4,b5⟩:=Z4a hk6
       clear hk6
       cases M with
       | false=>
         go_wp2_with (fail)
         go_ret
         exact ⟨Z0k (by rw [←HI3.out];rw [HOK.out];rfl),yy6⟩
       | true=>
         cases q with
         | false=>
           have HTH:Hid (Z0A l ⟨x1,false,x2,x3,x4,x5⟩=false):=hid (by unfold Z0A;rw [HQ2.out];rfl)
           go_wp2_with (fail)
           go_roundg (n-(0+1))
           case measure=>have:=HG.out;omega
           case rel=>exact ⟨0+1,4,by omega,rfl,rfl,by go_num,yy6,hid (by rw [←HI3.out,if_neg (show ¬ (0+1=0) by omega),Nat.add_sub_cancel,HX.out];rw [HOK.out,HTH.out];rfl)⟩
         | true=>
           have HTH:Hid (Z0A l ⟨x1,false,x2,x3,x4,x5⟩=Z2o l x1 ⟨x2,x3,x4,x5⟩):=hid (by unfold Z0A;rw [HQ2.out];rfl)
           go_wp2_with (go_at_call 123;refine Hid.out ?_)
           refine hid ?_
           refine (Z4f s l x1 x2 x3 x4 x5 _ ?sc f0 f1 ?tb).mono ?_
           case sc=>exact HS6.out
           case tb=>exact Z4G hT yy6 rfl
           rintro e w7 ⟨rfl,y7⟩
           have yy7:=Z2r yy6 y7 rfl rfl rfl rfl
           generalize Z2o l x1 ⟨x2,x3,x4,x5⟩=F at HTH ⊢
           cases F with
           | false=>
             go_wp2_with (fail)
             go_roundg (n-(0+1))
             case measure=>have:=HG.out;omega
             case rel=>exact ⟨0+1,4,by omega,rfl,rfl,by go_num,yy7,hid (by rw [←HI3.out,if_neg (show ¬ (0+1=0) by omega),Nat.add_sub_cancel,HX.out];rw [HOK.out,HTH.out];rfl)⟩
           | true=>
             go_wp2_with (fail)
             go_roundg (n-(0+1))
             case measure=>have:=HG.out;omega
             case rel=>exact ⟨0+1,ei,by omega,rfl,rfl,by go_num,yy7,hid (by rw [←HI3.out,if_neg (show ¬ (0+1=0) by omega),Nat.add_sub_cancel,HX.out];rw [HOK.out,HTH.out];rfl)⟩
   | succ k=>
     obtain ⟨ad',z,e,_,_,hz1,hz0⟩:=hh5.el (show k<p.length by omega)
     injection e with e;subst e
     obtain ⟨z1,zg,z2,z3,z4,z5⟩:=z
     obtain ⟨s0,-⟩:=Z0I hz0
     have HI4:Hid ((if (decide (z1<x1)&&okC ⟨x1,g,x2,x3,x4,x5⟩)=true then Z4K l (some x1) (if Z0A l ⟨x1,g,x2,x3,x4,x5⟩=true then ei else 4) (p.drop (k+1+1)) else 3)=R):=hid (by
      rw [←HI2.out,if_neg (show ¬ (k+1=0) by omega),Nat.add_sub_cancel,hz1];simp)
     clear HI2 hz1 hz0
     have hkn:k<n:=by omega
     have hw1:IntKind.i64.wrap (k:Int)=(k:Int):=IntWalk.i64_in _ (by omega)
     by_cases hle:x1≤z1
     ·have HI3:Hid ((3:Int)=R):=hid (by rw [←HI4.out,show decide (z1<x1)=false from decide_eq_false (by omega)];simp)
      clear HI4
      go_wp2_with (fail)
      go_quiet (fail)
      go_wp2_with (fail)
      go_ret
      exact ⟨Z0k HI3.out,y5.trans ((Z0m _ _).mono y5.size)⟩
     ·have HI3:Hid ((if okC ⟨x1,g,x2,x3,x4,x5⟩=true then Z4K l (some x1) (if Z0A l ⟨x1,g,x2,x3,x4,x5⟩=true then ei else 4) (p.drop (k+1+1)) else 3)=R):=hid (by rw [←HI4.out,show decide (z1<x1)=true from decide_eq_true (by omega)];simp)
      clear HI4
      go_wp2_with (fail)
      go_quiet (fail)
      cases g with
      | true=>
        cases hz:beqV ⟨x2,x3,x4,x5⟩ ⟨0,0,0,⟨#[]⟩⟩ with
        | false=>
          have hok:okC ⟨x1,true,x2,x3,x4,x5⟩=false:=hz
          have HOK:=hid hok
          clear hok
          go_wp2_with (fail)
          go_ret
          exact ⟨Z0k (by rw [←HI3.out];rw [HOK.out];rfl),y5.trans (Z0m _ _ |>.mono (y5.size))⟩
        | true=>
          have hok:okC ⟨x1,true,x2,x3,x4,x5⟩=true:=hz
          have HOK:=hid hok
          clear hok
          have HTH:Hid (Z0A l ⟨x1,true,x2,x3,x4,x5⟩=q):=hid (by unfold Z0A;rw [HQ2.out];simp)
          cases q with
          | false=>
            go_wp2_with (fail)
            go_roundg (n-((k+1)+1))
            case measure=>have:=HG.out;omega
            case rel=>exact ⟨(k+1)+1,4,by omega,rfl,rfl,by go_num,y5.trans ((Z0m _ _).mono y5.size),hid (by rw [←HI3.out,if_neg (show ¬ ((k+1)+1=0) by omega),Nat.add_sub_cancel,HX.out];rw [HOK.out,HTH.out];rfl)⟩
          | true=>
            go_wp2_with (fail)
            go_roundg (n-((k+1)+1))
            case measure=>have:=HG.out;omega
            case rel=>exact ⟨(k+1)+1,ei,by omega,rfl,rfl,by go_num,y5.trans ((Z0m _ _).mono y5.size),hid (by rw [←HI3.out,if_neg (show ¬ ((k+1)+1=0) by omega),Nat.add_sub_cancel,HX.out];rw [HOK.out,HTH.out];rfl)⟩
      | false=>
        go_wp2_with (go_at_call 122;refine Hid.out ?_)
        refine hid ?_
        refine (Z5t x2 x3 x4 x5 _ f0 f1 ?tb).mono ?_
        case tb=>exact Z4G hT y5 rfl
        rintro e w6 ⟨rfl,y6⟩
        have HOK:Hid (okC ⟨x1,false,x2,x3,x4,x5⟩=mayV ⟨x2,x3,x4,x5⟩):=hid rfl
        generalize mayV ⟨x2,x3,x4,x5⟩=M at HOK ⊢
        have yy6:=Z2r y5 y6 rfl rfl rfl rfl
        have hk6:=Y4Z HK5.out y6 rfl
        have HS6:=hid (Sch.at_ HS5.out y6 rfl)
        clear b0 b1 b2 b3 b4 b5
        obtain ⟨b0,b1,b2,b3,b4,b5⟩:=Z4a hk6
        clear hk6
        cases M with
        | false=>
          go_wp2_with (fail)
          go_ret
          exact ⟨Z0k (by rw [←HI3.out];rw [HOK.out];rfl),yy6⟩
        | true=>
          cases q with
          | false=>
            have HTH:Hid (Z0A l ⟨x1,false,x2,x3,x4,x5⟩=false):=hid (by unfold Z0A;rw [HQ2.out];rfl)
            go_wp2_with (fail)
            go_roundg (n-((k+1)+1))
            case measure=>have:=HG.out;omega
            case rel=>exact ⟨(k+1)+1,4,by omega,rfl,rfl,by go_num,yy6,hid (by rw [←HI3.out,if_neg (show ¬ ((k+1)+1=0) by omega),Nat.add_sub_cancel,HX.out];rw [HOK.out,HTH.out];rfl)⟩
          | true=>
            have HTH:Hid (Z0A l ⟨x1,false,x2,x3,x4,x5⟩=Z2o l x1 ⟨x2,x3,x4,x5⟩):=hid (by unfold Z0A;rw [HQ2.out];rfl)
            go_wp2_with (go_at_call 123;refine Hid.out ?_)
            refine hid ?_
            refine (Z4f s l x1 x2 x3 x4 x5 _ ?sc f0 f1 ?tb).mono ?_
            case sc=>exact HS6.out
            case tb=>exact Z4G hT yy6 rfl
            rintro e w7 ⟨rfl,y7⟩
            have yy7:=Z2r yy6 y7 rfl rfl rfl rfl
            generalize Z2o l x1 ⟨x2,x3,x4,x5⟩=F at HTH ⊢
            cases F with
            | false=>
              go_wp2_with (fail)
              go_roundg (n-((k+1)+1))
              case measure=>have:=HG.out;omega
              case rel=>exact ⟨(k+1)+1,4,by omega,rfl,rfl,by go_num,yy7,hid (by rw [←HI3.out,if_neg (show ¬ ((k+1)+1=0) by omega),Nat.add_sub_cancel,HX.out];rw [HOK.out,HTH.out];rfl)⟩
            | true=>
              go_wp2_with (fail)
              go_roundg (n-((k+1)+1))
              case measure=>have:=HG.out;omega
              case rel=>exact ⟨(k+1)+1,ei,by omega,rfl,rfl,by go_num,yy7,hid (by rw [←HI3.out,if_neg (show ¬ ((k+1)+1=0) by omega),Nat.add_sub_cancel,HX.out];rw [HOK.out,HTH.out];rfl)⟩
  ·have hmn:m=n:=by omega
   go_wp2_with (fail)
   go_ret
   refine ⟨Z0k ?_,y⟩
   rw [←HI.out,List.drop_eq_nil_of_le (by have:=N.out;omega)]
   rfl
theorem Y5p (s:Nat) (l:List Ky) (A:Option Addr) (n c:Nat) (p:List Ch) (w:World) (hn:n=p.length) (h:RdCh w w.heap.size A p) (hb:n≤140737488355328) (hS:Sch w s l) (hv:okVs p) (hT:Utf8Tabs 0 1 w) :
 Calls Tryz.prog 107 #[.pointer (some ⟨s,0,none⟩),.slice A n c] w fun e w'=>e=.returned (.int .i64 (mayP l p))∧Below w.heap.size w w':=
 Y3v s l A n c p w hn h hb hS (fun c hc=>(hv c hc).1) hT
theorem Z4n {l:List Ky} {p:List Ch} (h:mayP l p=0):p.length≤64∧Z3Y p=true∧p.all okC=true∧p.all (Z0A l)=true:=by
 unfold mayP at h
 by_cases h1:64<p.length
 ·rw [if_pos h1] at h;cases h
 ·rw [if_neg h1] at h
  by_cases h2:Z3Y p=true∧p.all okC=true
  ·rw [if_pos h2] at h
   by_cases h3:p.all (Z0A l)=true
   ·exact ⟨by omega,h2.1,h2.2,h3⟩
   ·rw [if_neg h3] at h;cases h
  ·rw [if_neg h2] at h;cases h
theorem Y7k {l:List Ky} {p:List Ch} (h0:p.length≤64) (h1:Z3Y p=true) (h2:∀ c∈p,okC c=true) (h3:∀ c∈p,Z0A l c=true):mayP l p=0:=by
 unfold mayP
 rw [if_neg (by omega),if_pos ⟨h1,List.all_eq_true.2 h2⟩,if_pos (List.all_eq_true.2 h3)]
def actC (l:List Ky) (c:Cl) (p:List Ch):Cl:=⟨c.r,Z1i (Z5n l (c.r==10) p) c.s⟩
theorem Y0W (l:List Ky) (c:Cl):actC l c []=c:=by cases c;rfl
def app (l:List Ky):List Un→List Cl→List Cl
 | [],d=>d
 | .ins r s::us,d=>⟨r,s⟩::app l us d
 | .del::us,d=>app l us (d.drop 1)
 | .ret p::us,d=>(d.take 1).map (fun c=>actC l c p)++app l us (d.drop 1)
theorem Z4L (l:List Ky):∀ (us:List Un) (d:List Cl),Z0j us≤d.length→(app l us d).length+Z0j us=d.length+Z0q us
 | [],d,_=>by simp [app,Z0j,Z0q]
 | .ins r s::us,d,h=>by have:=Z4L l us d h;simp [app,Z0j,Z0q];omega
 | .del::us,d,h=>by
   simp only [Z0j] at h
   have:=Z4L l us (d.drop 1) (by rw [List.length_drop];omega)
   rw [List.length_drop] at this
   simp only [app,Z0j,Z0q];omega
 | .ret p::us,d,h=>by
   simp only [Z0j] at h
   have:=Z4L l us (d.drop 1) (by rw [List.length_drop];omega)
   rw [List.length_drop] at this
   simp only [app,Z0j,Z0q,List.length_append,List.length_map,List.length_take];omega
theorem Z3L (l:List Ky):∀ (a b:List Un) (d:List Cl),app l (a++b) d=(app l a (d.take (Z0j a)))++app l b (d.drop (Z0j a))
 | [],b,d=>by simp [app,Z0j]
 | .ins r s::a,b,d=>by show _::app l (a++b) d=_;rw [Z3L l a b d];rfl
 | .del::a,b,d=>by
   show app l (a++b) (d.drop 1)=_
   rw [Z3L l a b (d.drop 1)]
   simp only [app,Z0j]
   rw [List.drop_drop,Nat.add_comm 1,List.drop_take,Nat.add_sub_cancel]
 | .ret p::a,b,d=>by
   show (d.take 1).map _++app l (a++b) (d.drop 1)=_
   rw [Z3L l a b (d.drop 1)]
   simp only [app,Z0j]
   rw [List.drop_drop,Nat.add_comm 1,List.drop_take,Nat.add_sub_cancel,List.take_take,Nat.min_eq_left (by omega),List.append_assoc]
theorem Y5q (l:List Ky) (us:List Un) (d:List Cl):app l (trim us) d=app l us d:=by
 induction us generalizing d with
 | nil=>rfl
 | cons u us ih=>
   rw [trim]
   cases ht:trim us with
   | nil=>
     have h1:∀ e:List Cl,app l us e=e:=fun e=>by rw [←ih e,ht];rfl
     simp only
     by_cases hu:u=.ret []
     ·rw [if_pos hu,hu]
      simp only [app]
      rw [h1]
      have:(d.take 1).map (fun c=>actC l c [])=d.take 1:=by simp [Y0W]
      rw [this,List.take_append_drop]
     ·rw [if_neg hu]
      cases u with
      | ins r s=>simp [app,h1]
      | del=>simp [app,h1]
      | ret p=>simp [app,h1]
   | cons v vs=>
     simp only
     rw [←ht]
     cases u with
     | ins r s=>simp [app,ih]
     | del=>simp [app,ih]
     | ret p=>simp [app,ih]
theorem Y8s (l:List Ky) (us:List Un):∀ (I:List Un) (g:Nat) (d:List Cl),(∀ u∈I,∃ r s,u=.ins r s)→app l (cn us I g) d=app l I []++app l us (d.drop g):=by
 have hI:∀ (I rest:List Un) (d:List Cl),(∀ u∈I,∃ r s,u=.ins r s)→app l (I++rest) d=app l I []++app l rest d:=by
  intro I
  induction I with
  | nil=>intro rest d _;rfl
  | cons u I ih=>
    intro rest d h
    obtain ⟨r,s,rfl⟩:=h u (by simp)
    show _::app l (I++rest) d=_
    rw [ih rest d (fun v hv=>h v (List.mem_cons_of_mem _ hv))];rfl
 have hD:∀ (g:Nat) (rest:List Un) (d:List Cl),app l (List.replicate g .del++rest) d=app l rest (d.drop g):=by
  intro g
  induction g with
  | zero=>intro rest d;rfl
  | succ g ih=>intro rest d;rw [List.replicate_succ];show app l (List.replicate g .del++rest) (d.drop 1)=_;rw [ih,List.drop_drop,Nat.add_comm 1]
 induction us with
 | nil=>
   intro I g d h
   rw [cn,hI I _ d h]
   have:=hD g [] d
   rw [List.append_nil] at this
   rw [this]
 | cons u us ih=>
   intro I g d h
   cases u with
   | ins r s=>
     have h2:∀ u∈I++[Un.ins r s],∃ r s,u=.ins r s:=fun v hv=>by
      rcases List.mem_append.1 hv with hv|hv
      ·exact h v hv
      ·simp at hv;exact ⟨r,s,hv⟩
     rw [cn,ih _ _ _ h2,hI I [.ins r s] [] h,List.append_assoc]
     rfl
   | del=>
     rw [cn,ih _ _ _ h]
     show _=_++app l us ((d.drop g).drop 1)
     rw [List.drop_drop]
   | ret p=>
     rw [cn,List.append_assoc,hI I _ d h,hD]
     rw [show app l (.ret p::cn us [] 0) (d.drop g)=((d.drop g).take 1).map (fun c=>actC l c p)++app l (cn us [] 0) ((d.drop g).drop 1) from rfl,ih [] 0 _ (by simp)]
     simp [app]
theorem Y3w (l:List Ky) (us:List Un) (d:List Cl):app l (Z1C us) d=app l us d:=by
 rw [Z1C,Y8s l us [] 0 d (by simp)];rfl
theorem Y8t (l:List Ky) (us:List Un) (d:List Cl):app l (nf us) d=app l us d:=by rw [nf,Y5q,Y3w]
theorem Y11 (us:List Un):Z0j (trim us)≤Z0j us:=by
 induction us with
 | nil=>simp [trim]
 | cons u us ih=>
   rw [trim]
   cases ht:trim us with
   | nil=>
     simp only
     by_cases hu:u=.ret []
     ·rw [if_pos hu];simp [Z0j]
     ·rw [if_neg hu];cases u<;>simp [Z0j]
   | cons v vs=>
     simp only
     rw [ht] at ih
     cases u with
     | ins r s=>rw [Z2z,Z2z];exact ih
     | del=>rw [Z2y,Z2y];omega
     | ret p=>rw [Z1H,Z1H];omega
theorem Y5r (us:List Un):Z0j (nf us)≤Z0j us:=by
 rw [nf];exact Nat.le_trans (Y11 _) (by rw [Z6g];exact Nat.le_refl _)
def okA (a:At):Bool:=mayV a.v
def Z05 (l:List Ky) (a:At):Bool:=Z2o l a.key a.v
def mayS (l:List Ky) (p:List At):Int:=if 64<p.length then 3 else if Z4b p=true∧p.all okA=true then (if p.all (Z05 l)=true then 0 else 4) else 3
def okVa (p:List At):Prop := ∀ c∈p,okV c.v∧c.v.s.size≤100000000
theorem Z2d {l:List Ky} {p:List At} (h:mayS l p=0):p.length≤64∧Z4b p=true∧(∀ a∈p,okA a=true)∧∀ a∈p,Z05 l a=true:=by
 unfold mayS at h
 by_cases h1:64<p.length
 ·rw [if_pos h1] at h;cases h
 ·rw [if_neg h1] at h
  by_cases h2:Z4b p=true∧p.all okA=true
  ·rw [if_pos h2] at h
   by_cases h3:p.all (Z05 l)=true
   ·exact ⟨by omega,h2.1,List.all_eq_true.1 h2.2,List.all_eq_true.1 h3⟩
   ·rw [if_neg h3] at h;cases h
  ·rw [if_neg h2] at h;cases h
def GoodB (w:World) (O:List (Nat×Obj)) (x:World):Prop:=Below w.heap.size w x∧∀ p∈O,x.heap[p.1]? = some p.2
structure GW (w:World) (O:List (Nat×Obj)) where
 val:World
 ok:GoodB w O val
section
variable {P:Program} {w v:World} {O:List (Nat×Obj)}
theorem GoodB.later {x y:World} (h:GoodB w O x) (hy:Below x.heap.size x y):GoodB w O y:=
 ⟨Z0a h.1 hy,fun p hp=>by
  have h1:=h.2 p hp
  rw [hy.block p.1 (Array.getElem?_eq_some_iff.1 h1).1]
  exact h1⟩
theorem Z8F {f:FuncId} {args:Array Value} {r:Value} (x:GW w O) (h:Calls P f args x.val fun e w'=>e=.returned r∧Below x.val.heap.size x.val w') :
 Calls P f args x.val fun e w'=>e=.returned r∧∃ y:GW w O,w'=y.val:=
 h.mono fun e w' ⟨he,hb⟩=>⟨he,⟨w',x.ok.later hb⟩,rfl⟩
theorem Y12 (h:GoodB w O v):∃ x:GW w O,({ v with drawn:=v.drawn+1 }:World)=x.val:=
 ⟨⟨{ v with drawn:=v.drawn+1 },⟨h.1.os,h.1.tape,h.1.output,h.1.size,h.1.block⟩,h.2⟩,rfl⟩
theorem Z0u {id:Nat} {Q:Exit→Act→World→Prop} {a:Act} {l:List Oper} (hm:P.follows .mixedOrders=true) (hB:Region.lexB .any l.toArray=true) (hC:GoodB w O v)
 (h:wpQuiet P l.toArray (fun w' => ∃ x:GW w O,w'=x.val) (fun a' => ∀ w',(∃ x:GW w O,w'=x.val)→Q .normal a' w') l a):(Code.region id l.toArray true).wp P Q a v:=
 wp_region_quiet (C:=fun w' => ∃ x:GW w O,w'=x.val) hm hB (Y12 hC) (by simpa using h)
theorem Y13 {b:Nat} {o:Obj} (h:(b,o)∈O) (x:GW w O):x.val.heap[b]? = some o:=x.ok.2 _ h
theorem Z2N {b:Nat} {cs:Array Value} {t:TypeId} (h:(b,Obj.cells cs t (0,0))∈O) (x:GW w O) (j:Nat) (u:Value) (hj:cs[j]? = some u):x.val.cell? ⟨b,j,none⟩=some u:=by
 have:=x.ok.2 _ h
 simp only [World.cell?,this]
 exact hj
end
open Go.RowKit
theorem Z8G {w:World} {O:List (Nat×Obj)} {a b:Nat} (hT:Utf8Tabs a b w) (x:GW w O):Utf8Tabs a b x.val:=Utf8Tabs_below hT x.ok.1
set_option linter.unusedVariables false
set_option linter.unusedSimpArgs false
def okVr (p:List At):Prop := ∀ c∈p,okV c.v
def Z4M (l:List Ky):Option Int→Int→List At→Int
 | _,e,[]=>e
 | prev,e,c::r=>if (prev.all (fun k=>decide (k<c.key))&&okA c)=true then Z4M l (some c.key) (if Z05 l c=true then e else 4) r else 3
theorem Z67 (l:List Ky):∀ (p:List At) (k:Int) (e:Int),Z4M l (some k) e p=if rise (k::p.map (·.key))=true∧p.all okA=true then (if p.all (Z05 l)=true then e else 4) else 3
 | [],k,e=>by simp [Z4M,rise]
 | c::r,k,e=>by
   unfold Z4M
   rw [Z67 l r c.key]
   by_cases h1:k<c.key
   ·by_cases h2:okA c=true
    ·by_cases h3:Z05 l c=true
     ·simp [h1,h2,h3,rise]
     ·have h3:Z05 l c=false:=by simpa using h3
      simp [h1,h2,h3,rise]
    ·have h2:okA c=false:=by simpa using h2
     simp [h1,h2]
   ·simp [h1,rise]
theorem Y14 (l:List Ky) (p:List At) (h:p.length≤64):Z4M l none 0 p=mayS l p:=by
 unfold mayS
 rw [if_neg (by omega)]
 cases p with
 | nil=>simp [Z4M,Z4b,rise]
 | cons c r=>
   unfold Z4M
   rw [Z67]
   by_cases h2:okA c=true
   ·by_cases h3:Z05 l c=true
    ·simp [h2,h3,Z4b]
    ·have h3:Z05 l c=false:=by simpa using h3
     simp [h2,h3,Z4b]
   ·have h2:okA c=false:=by simpa using h2
    simp [h2]
theorem Z2O {k n f:Int} {s:ByteArray} {b:Bool} {w:World} {O:List (Nat×Obj)} (hT:Utf8Tabs 0 1 w) (h0:0≤f) (h1:f<18446744073709551616) (h:mayV ⟨k,n,f,s⟩=b) (x:GW w O) :
 Calls Tryz.prog 122 #[.agg #[.int .u8 k,.int .i64 n,.int .u64 f,.string s]] x.val fun e w'=>e=.returned (.bool b)∧∃ y:GW w O,w'=y.val:=
 Z8F x ((Z5t k n f s x.val h0 h1 (Z8G hT x)).mono fun e w' h'=>⟨by rw [h'.1,h],h'.2⟩)
theorem Z7Q (s:Nat) (l:List Ky) (A:Option Addr) (n c:Nat) (p:List At) (w:World) (hn:n=p.length) (h:RdAt w w.heap.size A p) (hb:n≤140737488355328) (hS:Sch w s l) (hv:okVr p) (hT:Utf8Tabs 0 1 w) :
 Calls Tryz.prog 52 #[.pointer (some ⟨s,0,none⟩),.slice A n c] w fun e w'=>e=.returned (.int .i64 (mayS l p))∧Below w.heap.size w w':=by
 have N:=hid hn
 generalize hR:mayS l p=R
 have HR:=hid hR
 clear hn hR
 by_cases h64:(64:Int)<(n:Int)
 ·go_enter Tryz.func52,Tryz.ntmps52
  go_wp2_with (fail)
  go_ret
  refine ⟨Z0k ?_,Below.refl _ _⟩
  rw [←HR.out]
  have:=N.out
  unfold mayS
  rw [if_pos (by omega)]
 have HP:Hid (Z4M l none 0 p=R):=hid (by rw [←HR.out];exact Y14 l p (by have:=N.out;omega))
 go_enter Tryz.func52,Tryz.ntmps52
 go_wp2_with (fail)
 go_loopg [5,13] n (fun g ev iv wr => ∃ (m:Nat) (ei:Int),m≤n∧g=n-m∧ev=.int .i64 ei∧iv=.int .i64 (m:Int)∧Below w.heap.size w wr∧Hid (Z4M l (if m=0 then none else (p[m-1]?).map (·.key)) ei (p.drop m)=R))
 case atStart=>exact ⟨0,0,by omega,rfl,rfl,rfl,Below.refl _ _,hid (by rw [List.drop_zero];exact HP.out)⟩
 case round=>
  obtain ⟨m,ei,hm,hg,rfl,rfl,y,HI⟩:=hrel
  have HG:=hid hg
  clear hg HR HP
  by_cases hlt:m<n
  ·have hl1:m<p.length:=by have:=N.out;omega
   obtain ⟨ad,x,rfl,had,hd1,hx1,hc0⟩:=(h.below y (Nat.le_refl _)).el hl1
   have hxv:=hv x (List.mem_of_getElem? hx1)
   obtain ⟨x1,x2,x3,x4,x5⟩:=x
   obtain ⟨r0,r1,r2,r3,r4⟩:=Z0P hc0
   obtain ⟨f0,f1⟩:0≤x4∧x4<18446744073709551616:=⟨hxv.f0,hxv.f1⟩
   have HI2:Hid ((if ((if m=0 then none else (p[m-1]?).map (·.key)).all (fun k=>decide (k<x1))&&okA ⟨x1,x2,x3,x4,x5⟩)=true then Z4M l (some x1) (if Z05 l ⟨x1,x2,x3,x4,x5⟩=true then ei else 4) (p.drop (m+1)) else 3)=R):=hid (by
    rw [←HI.out,hd1];rfl)
   have HX:=hid hx1
   have hk2:=heap_alloc_new wr (.cells #[.int .i64 x1,.int .u8 x2,.int .i64 x3,.int .u64 x4,.string x5] 108)
   have y2:=Z0a y (Z0b wr (.cells #[.int .i64 x1,.int .u8 x2,.int .i64 x3,.int .u64 x4,.string x5] 108))
   have HK2:=hid hk2
   clear hc0 hd1 hx1 HI hxv
   have hw2:IntKind.i64.wrap ((m:Int)+1)=(m:Int)+1:=IntWalk.i64_in _ (by omega)
   obtain ⟨M,hM⟩:∃ X,mayV ⟨x2,x3,x4,x5⟩=X:=⟨_,rfl⟩
   have HM:=hid hM
   have HOK:Hid (okA ⟨x1,x2,x3,x4,x5⟩=M):=hid hM
   clear hM hk2
   go_wp2_with (fail)
   have hB:wr.heap.size=wr.heap.size:=rfl
   obtain ⟨O,hO⟩:∃ O:List (Nat×Obj),O=[(wr.heap.size,.cells #[.int .i64 x1,.int .u8 x2,.int .i64 x3,.int .u64 x4,.string x5] 108 (0,0))]:=⟨_,rfl⟩
   have gg:GoodB w O _:=⟨y2,by rw [hO];intro p hp;simp only [List.mem_cons,List.not_mem_nil,or_false] at hp;rcases hp with rfl;exact HK2.out⟩
   have b0:∀ x:GW w O,x.val.cell? ⟨wr.heap.size,0,none⟩=some (.int .i64 x1):=fun x=>Z2N (cs:=#[.int .i64 x1,.int .u8 x2,.int .i64 x3,.int .u64 x4,.string x5]) (t:=108) (by rw [hO];simp) x 0 _ rfl
   have b1:∀ x:GW w O,x.val.cell? ⟨wr.heap.size,1,none⟩=some (.int .u8 x2):=fun x=>Z2N (cs:=#[.int .i64 x1,.int .u8 x2,.int .i64 x3,.int .u64 x4,.string x5]) (t:=108) (by rw [hO];simp) x 1 _ rfl
   have b2:∀ x:GW w O,x.val.cell? ⟨wr.heap.size,2,none⟩=some (.int .i64 x3):=fun x=>Z2N (cs:=#[.int .i64 x1,.int .u8 x2,.int .i64 x3,.int .u64 x4,.string x5]) (t:=108) (by rw [hO];simp) x 2 _ rfl
   have b3:∀ x:GW w O,x.val.cell? ⟨wr.heap.size,3,none⟩=some (.int .u64 x4):=fun x=>Z2N (cs:=#[.int .i64 x1,.int .u8 x2,.int .i64 x3,.int .u64 x4,.string x5]) (t:=108) (by rw [hO];simp) x 3 _ rfl
   have b4:∀ x:GW w O,x.val.cell? ⟨wr.heap.size,4,none⟩=some (.string x5):=fun x=>Z2N (cs:=#[.int .i64 x1,.int .u8 x2,.int .i64 x3,.int .u64 x4,.string x5]) (t:=108) (by rw [hO];simp) x 4 _ rfl
   have HBX:Hid (∀ x:GW w O,x.val.heap[wr.heap.size]? = some (.cells #[.int .i64 x1,.int .u8 x2,.int .i64 x3,.int .u64 x4,.string x5] 108 (0,0))):=hid (fun x=>Y13 (by rw [hO];simp) x)
   clear hO r0 r1 r2 r3 r4 hB
   haveI:Nonempty (GW w O):=⟨⟨_,gg⟩⟩
   cases m with
   | zero=>
     have HI3:Hid ((if okA ⟨x1,x2,x3,x4,x5⟩=true then Z4M l (some x1) (if Z05 l ⟨x1,x2,x3,x4,x5⟩=true then ei else 4) (p.drop (0+1)) else 3)=R):=hid (by rw [←HI2.out];simp)
     clear HI2
     cases M with
     | false=>
       refine Z0u (by kernel_rfl) (by kernel_rfl) gg ?_
       repeat (go_big_quiet_step (first|(go_at_call 122;with_reducible exact Z2O hT f0 f1 HM.out _)))
       refine wpQuiet_nil ?_
       intro _ hw'
       obtain ⟨xx,rfl⟩:=hw'
       have yx:=xx.ok.1
       have hbx:=HBX.out xx
       generalize xx.val=w8 at *
       clear b0 b1 b2 b3 b4
       go_wp2_with (fail)
       go_ret
       exact ⟨Z0k (by rw [←HI3.out,HOK.out];rfl),yx⟩
     | true=>
       refine Z0u (by kernel_rfl) (by kernel_rfl) gg ?_
       repeat (go_big_quiet_step (first|(go_at_call 122;with_reducible exact Z2O hT f0 f1 HM.out _)))
       refine wpQuiet_nil ?_
       intro _ hw'
       obtain ⟨xx,rfl⟩:=hw'
       have yx:=xx.ok.1
       have hbx:=HBX.out xx
       generalize xx.val=w8 at *
       clear b0 b1 b2 b3 b4
       obtain ⟨b0,b1,b2,b3,b4⟩:=Z0x hbx
       have HTH:Hid (Z05 l ⟨x1,x2,x3,x4,x5⟩=Z2o l x1 ⟨x2,x3,x4,x5⟩):=hid rfl
       clear hbx
       go_wp2_with (go_at_call 123;refine Hid.out ?_)
       refine hid ?_
       refine (Z4f s l x1 x2 x3 x4 x5 _ (hS.ext yx) f0 f1 (Utf8Tabs_below hT yx)).mono ?_
       rintro e w7 ⟨rfl,y7⟩
       have yy7:=Z0a yx y7
       generalize Z2o l x1 ⟨x2,x3,x4,x5⟩=F at HTH ⊢
       cases F with
       | false=>
         go_wp2_with (fail)
         go_roundg (n-(0+1))
         case measure=>have:=HG.out;omega
         case rel=>exact ⟨0+1,4,by omega,rfl,rfl,by go_num,yy7,hid (by rw [←HI3.out,if_neg (show ¬ (0+1=0) by omega),Nat.add_sub_cancel,HX.out];rw [HOK.out,HTH.out];rfl)⟩
       | true=>
         go_wp2_with (fail)
         go_roundg (n-(0+1))
         case measure=>have:=HG.out;omega
         case rel=>exact ⟨0+1,ei,by omega,rfl,rfl,by go_num,yy7,hid (by rw [←HI3.out,if_neg (show ¬ (0+1=0) by omega),Nat.add_sub_cancel,HX.out];rw [HOK.out,HTH.out];rfl)⟩
   | succ k=>
     obtain ⟨ad',z,e,_,_,hz1,hz0⟩:=h.el (show k<p.length by omega)
     injection e with e;subst e
     obtain ⟨z1,z2,z3,z4,z5⟩:=z
     have HZ:=hid hz0
     have s0:∀ x:GW w O,x.val.cell? _=some (Value.int IntKind.i64 z1):=fun x=>(Z0P (HZ.out.keep (w':=x.val) fun q hq=>x.ok.1.cell (by rw [hq,Z0R];exact had))).1
     have HI4:Hid ((if (decide (z1<x1)&&okA ⟨x1,x2,x3,x4,x5⟩)=true then Z4M l (some x1) (if Z05 l ⟨x1,x2,x3,x4,x5⟩=true then ei else 4) (p.drop (k+1+1)) else 3)=R):=hid (by
      rw [←HI2.out,if_neg (show ¬ (k+1=0) by omega),Nat.add_sub_cancel,hz1];simp)
     clear HI2 hz1 hz0
     have hkn:k<n:=by omega
     have hw1:IntKind.i64.wrap (k:Int)=(k:Int):=IntWalk.i64_in _ (by omega)
     by_cases hle:x1≤z1
     ·have HI3:Hid ((3:Int)=R):=hid (by rw [←HI4.out,show decide (z1<x1)=false from decide_eq_false (by omega)];simp)
      clear HI4
      refine Z0u (by kernel_rfl) (by kernel_rfl) gg ?_
      repeat (go_big_quiet_step (first|(go_at_call 122;with_reducible exact Z2O hT f0 f1 HM.out _)))
      refine wpQuiet_nil ?_
      intro _ hw'
      obtain ⟨xx,rfl⟩:=hw'
      have yx:=xx.ok.1
      have hbx:=HBX.out xx
      generalize xx.val=w8 at *
      clear b0 b1 b2 b3 b4 s0
      go_wp2_with (fail)
      go_ret
      exact ⟨Z0k HI3.out,yx⟩
     ·have HI3:Hid ((if okA ⟨x1,x2,x3,x4,x5⟩=true then Z4M l (some x1) (if Z05 l ⟨x1,x2,x3,x4,x5⟩=true then ei else 4) (p.drop (k+1+1)) else 3)=R):=hid (by rw [←HI4.out,show decide (z1<x1)=true from decide_eq_true (by omega)];simp)
      clear HI4
      cases M with
      | false=>
        refine Z0u (by kernel_rfl) (by kernel_rfl) gg ?_
        repeat (go_big_quiet_step (first|(go_at_call 122;with_reducible exact Z2O hT f0 f1 HM.out _)))
        refine wpQuiet_nil ?_
        intro _ hw'
        obtain ⟨xx,rfl⟩:=hw'
        have yx:=xx.ok.1
        have hbx:=HBX.out xx
        generalize xx.val=w8 at *
        clear b0 b1 b2 b3 b4 s0
        go_wp2_with (fail)
        go_ret
        exact ⟨Z0k (by rw [←HI3.out,HOK.out];rfl),yx⟩
      | true=>
        refine Z0u (by kernel_rfl) (by kernel_rfl) gg ?_
        repeat (go_big_quiet_step (first|(go_at_call 122;with_reducible exact Z2O hT f0 f1 HM.out _)))
        refine wpQuiet_nil ?_
        intro _ hw'
        obtain ⟨xx,rfl⟩:=hw'
        have yx:=xx.ok.1
        have hbx:=HBX.out xx
        generalize xx.val=w8 at *
        clear b0 b1 b2 b3 b4 s0
        obtain ⟨b0,b1,b2,b3,b4⟩:=Z0x hbx
        have HTH:Hid (Z05 l ⟨x1,x2,x3,x4,x5⟩=Z2o l x1 ⟨x2,x3,x4,x5⟩):=hid rfl
        clear hbx
        go_wp2_with (go_at_call 123;refine Hid.out ?_)
        refine hid ?_
        refine (Z4f s l x1 x2 x3 x4 x5 _ (hS.ext yx) f0 f1 (Utf8Tabs_below hT yx)).mono ?_
        rintro e w7 ⟨rfl,y7⟩
        have yy7:=Z0a yx y7
        generalize Z2o l x1 ⟨x2,x3,x4,x5⟩=F at HTH ⊢
        cases F with
        | false=>
          go_wp2_with (fail)
          go_roundg (n-((k+1)+1))
          case measure=>have:=HG.out;omega
          case rel=>exact ⟨(k+1)+1,4,by omega,rfl,rfl,by go_num,yy7,hid (by rw [←HI3.out,if_neg (show ¬ ((k+1)+1=0) by omega),Nat.add_sub_cancel,HX.out];rw [HOK.out,HTH.out];rfl)⟩
        | true=>
          go_wp2_with (fail)
          go_roundg (n-((k+1)+1))
          case measure=>have:=HG.out;omega
          case rel=>exact ⟨(k+1)+1,ei,by omega,rfl,rfl,by go_num,yy7,hid (by rw [←HI3.out,if_neg (show ¬ ((k+1)+1=0) by omega),Nat.add_sub_cancel,HX.out];rw [HOK.out,HTH.out];rfl)⟩
  ·have hmn:m=n:=by omega
   go_wp2_with (fail)
   go_ret
   refine ⟨Z0k ?_,y⟩
   rw [←HI.out,List.drop_eq_nil_of_le (by have:=N.out;omega)]
   rfl
def Z6l {α:Type} (pr:α→Bool) (l:List α) (i:Int):Prop:=
 (i = -1∧∀ x∈l,pr x=false)∨∃ j:Nat,i=j∧j<l.length∧(∀ x∈l.take j,pr x=false)∧∃ x,l[j]? = some x∧pr x=true
end Go.Proofs.YtnmedachaeanbaaGreatDoor
