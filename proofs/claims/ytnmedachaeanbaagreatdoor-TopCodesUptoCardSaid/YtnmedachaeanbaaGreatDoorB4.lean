/- Merged texts. -/
import Derived.Test.YtnmedachaeanbaaGreatDoorB3
namespace Go.Proofs.YtnmedachaeanbaaGreatDoor
set_option maxRecDepth 1000000
set_option maxHeartbeats 16000000
open Go.RowKit
open Go.Lib (hid Utf8Tabs)
set_option linter.unusedVariables false
set_option linter.unusedSimpArgs false
theorem Z6W (A:Option Addr) (n c:Nat) (tt:List UInt8) (w:World) (hn:n=tt.length) (hc:n≤c) (hb:n≤140737488355328) (h:RdB w w.heap.size A tt)
 (hT:Utf8Tabs 0 1 w) :
 Calls Tryz.prog 191 #[.slice A n c] w fun e w'=>e=.returned (.bool (Lib.validD tt))∧Below w.heap.size w w':=by
 obtain ⟨ANS,hANS⟩:∃ ANS,Lib.validD tt=ANS:=⟨_,rfl⟩
 rw [hANS]
 have AN:=hid hANS
 have NN:=hid hn
 clear hANS hn
 have sl0:∀ W,(Instr.slice 55 (.slice A n c) none (some (.int .i64 (n:Int))) (some (.int .i64 (n:Int)))).run Tryz.prog W=.ok (.slice A n n) W:=Y74 A n c hc
 go_enter Tryz.func191,Tryz.ntmps191
 go_wp2_with (fail)
 go_loopg [0] (n+1) (fun gk s0 wx => ∃ (A:Option Addr) (m:Nat) (t:List UInt8),Below w.heap.size w wx∧s0=.slice A m m∧Hid (m=t.length)∧RdB w w.heap.size A t∧Hid (Lib.validD t=ANS)∧m<gk∧m≤140737488355328)
 case atStart=>exact ⟨A,n,tt,Below.refl _ _,rfl,NN,h,AN,by omega,hb⟩
 case round=>
  clear sl0 h hb AN NN hc
  obtain ⟨A,m,t,hbw,rfl,N,b,V,hg,hml⟩:=hrel
  have r:RdB wr w.heap.size A t:=b.below hbw (Nat.le_refl _)
  have hTr:=Utf8Tabs_below hT hbw
  by_cases h0:0<m
  ·obtain ⟨g',rfl⟩:∃ g',gk=g'+1:=⟨gk-1,by omega⟩
   have hl0:0<t.length:=by have:=N.out;omega
   obtain ⟨ad,rfl,had,hr⟩:=r hl0
   clear hr
   have h0z:(0:Int)<(m:Int):=by omega
   obtain ⟨x0,hx0⟩:∃ x0,t[0]'hl0=x0:=⟨_,rfl⟩
   have c0:=r.at0 hl0
   rw [hx0] at c0
   have hx0lt:x0.toNat<256:=x0.toNat_lt
   by_cases hasc:x0.toNat<128
   ·as_aux_lemma=>
    have hascz:(x0.toNat:Int)<128:=by omega
    have a1:=hid (Y4V hl0 (by rw [hx0];exact hasc))
    clear hTr hT hx0
    obtain ⟨A1,hA1⟩:∃ X,adv (some ad) m 1=X:=⟨_,rfl⟩
    obtain ⟨m1,hm1⟩:∃ X,m-1=X:=⟨_,rfl⟩
    obtain ⟨t1,ht1⟩:∃ X,t.drop 1=X:=⟨_,rfl⟩
    have g1:m1+1≤m:=by omega
    have g1':m≤m1+1:=by omega
    have s1:∀ W,(Instr.slice 55 (.slice (some ad) m m) (some (.int .i64 1)) none none).run Tryz.prog W=.ok (.slice A1 m1 m1) W:=Z18 (k:=1) rfl hA1 hm1 (by omega)
    have b1:RdB w w.heap.size A1 t1:=by rw [←hA1,←ht1];exact Z3p b N.out (by omega)
    have N1:Hid (m1=t1.length):=hid (by rw [←ht1,List.length_drop,←N.out];exact hm1.symm)
    have T1:Hid (t.drop 1=t1):=hid ht1
    clear hA1 hm1 ht1
    have V1:Hid (Lib.validD t1=ANS):=hid (by rw [←T1.out,Z4c a1.out];exact V.out)
    clear a1
    by_cases c8:8<m1
    ·have c8z:(8:Int)<(m1:Int):=by omega
     obtain ⟨W1,hW1⟩:∃ X,Lib.leNat (t1.take 8)=X:=⟨_,rfl⟩
     have lW1:W1<18446744073709551616:=hW1 ▸ Z5S t1
     have kW1:=Z17 (t:=t1) (by have:=N1.out;omega)
     rw [hW1] at kW1
     have KW1:=hid kW1
     have cW1:∀ W:World,(∀ x,W.cell? x=wr.cell? x)→Calls Tryz.prog 267 #[.slice A1 m1 m1] W fun e w'=>e=.returned (.int .u64 W1)∧∃ q,w'=W.drewN q:=fun W hW=>by rw [←hW1];exact Z21 _ _ _ w.heap.size t1 W N1.out (by omega) ((b1.below hbw (Nat.le_refl _)).keep fun x _=>hW x)
     clear hW1 kW1
     have hand1:bits .and .u64 (W1:Int) 9259542123273814144=((W1&&&9259542123273814144:Nat):Int):=u64_and_nat W1 9259542123273814144 lW1 (by omega)
     obtain ⟨Z1,hZ1⟩:∃ Z1,W1&&&9259542123273814144=Z1:=⟨_,rfl⟩
     have kW1:=KW1.out
     rw [hZ1] at hand1 kW1
     clear hZ1 KW1
     by_cases hz1:Z1=0
     ·have hz1b:((Z1:Int)==0)=true:=by simp [hz1]
      have a8:=hid (kW1.1 hz1)
      clear kW1
      obtain ⟨A2,hA2⟩:∃ X,adv A1 m1 8=X:=⟨_,rfl⟩
      obtain ⟨m2,hm2⟩:∃ X,m1-8=X:=⟨_,rfl⟩
      obtain ⟨t2,ht2⟩:∃ X,t1.drop 8=X:=⟨_,rfl⟩
      have g2:m2+8≤m1:=by omega
      have g2':m1≤m2+8:=by omega
      have s2:∀ W,(Instr.slice 55 (.slice A1 m1 m1) (some (.int .i64 8)) none none).run Tryz.prog W=.ok (.slice A2 m2 m2) W:=Z18 (k:=8) rfl hA2 hm2 (by omega)
      have b2:RdB w w.heap.size A2 t2:=by rw [←hA2,←ht2];exact Z3p b1 N1.out (by omega)
      have N2:Hid (m2=t2.length):=hid (by rw [←ht2,List.length_drop,←N1.out];exact hm2.symm)
      have T2:Hid (t1.drop 8=t2):=hid ht2
      clear hA2 hm2 ht2
      have V2:Hid (Lib.validD t2=ANS):=hid (by rw [←T2.out,Z4c a8.out];exact V1.out)
      go_wp2_with (go_at_call 267;(refine (cW1 _ (fun _=>rfl)).mono ?_;rintro e W1 ⟨rfl,q1,rfl⟩))
      clear cW1
      by_cases c16:16<m2
      ·have c16z:(16:Int)<(m2:Int):=by omega
       have s8z:(8:Int)≤(m2:Int):=by omega
       obtain ⟨A3,hA3⟩:∃ X,adv A2 m2 8=X:=⟨_,rfl⟩
       obtain ⟨m3,hm3⟩:∃ X,m2-8=X:=⟨_,rfl⟩
       obtain ⟨t3,ht3⟩:∃ X,t2.drop 8=X:=⟨_,rfl⟩
       have g3:m3+8≤m2:=by omega
       have g3':m2≤m3+8:=by omega
       have s3:∀ W,(Instr.slice 55 (.slice A2 m2 m2) (some (.int .i64 8)) none none).run Tryz.prog W=.ok (.slice A3 m3 m3) W:=Z18 (k:=8) rfl hA3 hm3 (by omega)
       have b3:RdB w w.heap.size A3 t3:=by rw [←hA3,←ht3];exact Z3p b2 N2.out (by omega)
       have N3:Hid (m3=t3.length):=hid (by rw [←ht3,List.length_drop,←N2.out];exact hm3.symm)
       have T3:Hid (t2.drop 8=t3):=hid ht3
       clear hA3 hm3 ht3
       obtain ⟨W2,hW2⟩:∃ X,Lib.leNat (t2.take 8)=X:=⟨_,rfl⟩
       have lW2:W2<18446744073709551616:=hW2 ▸ Z5S t2
       have kW2:=Z17 (t:=t2) (by have:=N2.out;omega)
       rw [hW2] at kW2
       have KW2:=hid kW2
       have cW2:∀ W:World,(∀ x,W.cell? x=wr.cell? x)→Calls Tryz.prog 267 #[.slice A2 m2 m2] W fun e w'=>e=.returned (.int .u64 W2)∧∃ q,w'=W.drewN q:=fun W hW=>by rw [←hW2];exact Z21 _ _ _ w.heap.size t2 W N2.out (by omega) ((b2.below hbw (Nat.le_refl _)).keep fun x _=>hW x)
       clear hW2 kW2
       obtain ⟨W3,hW3⟩:∃ X,Lib.leNat (t3.take 8)=X:=⟨_,rfl⟩
       have lW3:W3<18446744073709551616:=hW3 ▸ Z5S t3
       have kW3:=Z17 (t:=t3) (by have:=N3.out;omega)
       rw [hW3] at kW3
       have KW3:=hid kW3
       have cW3:∀ W:World,(∀ x,W.cell? x=wr.cell? x)→Calls Tryz.prog 267 #[.slice A3 m3 m3] W fun e w'=>e=.returned (.int .u64 W3)∧∃ q,w'=W.drewN q:=fun W hW=>by rw [←hW3];exact Z21 _ _ _ w.heap.size t3 W N3.out (by omega) ((b3.below hbw (Nat.le_refl _)).keep fun x _=>hW x)
       clear hW3 kW3
       have hor2:bits .or .u64 (W2:Int) (W3:Int)=((W2|||W3:Nat):Int):=u64_or_nat W2 W3 lW2 lW3
       have lor2:W2|||W3<18446744073709551616:=Nat.or_lt_two_pow (n:=64) lW2 lW3
       have hand2:bits .and .u64 ((W2|||W3:Nat):Int) 9259542123273814144=(((W2|||W3)&&&9259542123273814144:Nat):Int):=u64_and_nat _ 9259542123273814144 lor2 (by omega)
       have k2:(W2|||W3)&&&9259542123273814144=0→ascL t2 16:=fun h0'=>by
        obtain ⟨e1,e2⟩:=(Lib.or_mask W2 W3 _).1 h0'
        exact Z5q (a:=8) (b:=8) (KW2.out.1 e1) (by rw [T3.out];exact KW3.out.1 e2)
       obtain ⟨O2,hO2⟩:∃ O2,W2|||W3=O2:=⟨_,rfl⟩
       rw [hO2] at hor2 hand2 k2
       obtain ⟨Z2,hZ2⟩:∃ Z2,O2&&&9259542123273814144=Z2:=⟨_,rfl⟩
       rw [hZ2] at hand2 k2
       clear lor2 hO2 hZ2 KW2 KW3
       by_cases hz2:Z2=0
       ·have hz2b:((Z2:Int)==0)=true:=by simp [hz2]
        have a16:=hid (k2 hz2)
        clear k2
        obtain ⟨A4,hA4⟩:∃ X,adv A2 m2 16=X:=⟨_,rfl⟩
        obtain ⟨m4,hm4⟩:∃ X,m2-16=X:=⟨_,rfl⟩
        obtain ⟨t4,ht4⟩:∃ X,t2.drop 16=X:=⟨_,rfl⟩
        have g4:m4+16≤m2:=by omega
        have g4':m2≤m4+16:=by omega
        have s4:∀ W,(Instr.slice 55 (.slice A2 m2 m2) (some (.int .i64 16)) none none).run Tryz.prog W=.ok (.slice A4 m4 m4) W:=Z18 (k:=16) rfl hA4 hm4 (by omega)
        have b4:RdB w w.heap.size A4 t4:=by rw [←hA4,←ht4];exact Z3p b2 N2.out (by omega)
        have N4:Hid (m4=t4.length):=hid (by rw [←ht4,List.length_drop,←N2.out];exact hm4.symm)
        have T4:Hid (t2.drop 16=t4):=hid ht4
        clear hA4 hm4 ht4
        have V4:Hid (Lib.validD t4=ANS):=hid (by rw [←T4.out,Z4c a16.out];exact V2.out)
        go_quiet (first|(go_at_call 267;(with_reducible first|refine Z0Y (cW2 _ (fun _=>rfl))|refine Calls.quiet_of (cW2 _ (fun _=>rfl))))|(go_at_call 267;(with_reducible first|refine Z0Y (cW3 _ (fun _=>rfl))|refine Calls.quiet_of (cW3 _ (fun _=>rfl)))))
        clear cW2 cW3
        go_wp2_with (fail)
        obtain ⟨wo,hwo⟩:∃ x,x=w.heap.size:=⟨_,rfl⟩
        go_loopg [0] (m4+1) (fun gk s0 wx => ∃ (A:Option Addr) (m:Nat) (t:List UInt8),Below w.heap.size w wx∧s0=.slice A m m∧Hid (m=t.length)∧RdB w w.heap.size A t∧Hid (Lib.validD t=ANS)∧m<gk∧m≤m4)
        case atStart=>exact ⟨A4,m4,t4,(by first|exact Z0f hbw|exact Z0f (Z0f hbw)),rfl,N4,b4,V4,by omega,Nat.le_refl _⟩
        case round=>
         clear hwo
         obtain ⟨A5,m5,t5,hbw,rfl,N5,b5,V5,hg5,hm5⟩:=hrel
         by_cases c32:32<m5
         ·obtain ⟨g3,rfl⟩:∃ g3,gk=g3+1:=⟨gk-1,by omega⟩
          have c32z:(32:Int)<(m5:Int):=by omega
          have s8u:(8:Int)≤(m5:Int):=by omega
          have s16u:(16:Int)≤(m5:Int):=by omega
          have s24u:(24:Int)≤(m5:Int):=by omega
          obtain ⟨A6,hA6⟩:∃ X,adv A5 m5 8=X:=⟨_,rfl⟩
          obtain ⟨m6,hm6⟩:∃ X,m5-8=X:=⟨_,rfl⟩
          obtain ⟨t6,ht6⟩:∃ X,t5.drop 8=X:=⟨_,rfl⟩
          have g6:m6+8≤m5:=by omega
          have g6':m5≤m6+8:=by omega
          have s6:∀ W,(Instr.slice 55 (.slice A5 m5 m5) (some (.int .i64 8)) none none).run Tryz.prog W=.ok (.slice A6 m6 m6) W:=Z18 (k:=8) rfl hA6 hm6 (by omega)
          have b6:RdB w w.heap.size A6 t6:=by rw [←hA6,←ht6];exact Z3p b5 N5.out (by omega)
          have N6:Hid (m6=t6.length):=hid (by rw [←ht6,List.length_drop,←N5.out];exact hm6.symm)
          have T6:Hid (t5.drop 8=t6):=hid ht6
          clear hA6 hm6 ht6
          obtain ⟨A7,hA7⟩:∃ X,adv A5 m5 16=X:=⟨_,rfl⟩
          obtain ⟨m7,hm7⟩:∃ X,m5-16=X:=⟨_,rfl⟩
          obtain ⟨t7,ht7⟩:∃ X,t5.drop 16=X:=⟨_,rfl⟩
          have g7:m7+16≤m5:=by omega
          have g7':m5≤m7+16:=by omega
          have s7:∀ W,(Instr.slice 55 (.slice A5 m5 m5) (some (.int .i64 16)) none none).run Tryz.prog W=.ok (.slice A7 m7 m7) W:=Z18 (k:=16) rfl hA7 hm7 (by omega)
          have b7:RdB w w.heap.size A7 t7:=by rw [←hA7,←ht7];exact Z3p b5 N5.out (by omega)
          have N7:Hid (m7=t7.length):=hid (by rw [←ht7,List.length_drop,←N5.out];exact hm7.symm)
          have T7:Hid (t5.drop 16=t7):=hid ht7
          clear hA7 hm7 ht7
          obtain ⟨A8,hA8⟩:∃ X,adv A5 m5 24=X:=⟨_,rfl⟩
          obtain ⟨m8,hm8⟩:∃ X,m5-24=X:=⟨_,rfl⟩
          obtain ⟨t8,ht8⟩:∃ X,t5.drop 24=X:=⟨_,rfl⟩
          have g8:m8+24≤m5:=by omega
          have g8':m5≤m8+24:=by omega
          have s8:∀ W,(Instr.slice 55 (.slice A5 m5 m5) (some (.int .i64 24)) none none).run Tryz.prog W=.ok (.slice A8 m8 m8) W:=Z18 (k:=24) rfl hA8 hm8 (by omega)
          have b8:RdB w w.heap.size A8 t8:=by rw [←hA8,←ht8];exact Z3p b5 N5.out (by omega)
          have N8:Hid (m8=t8.length):=hid (by rw [←ht8,List.length_drop,←N5.out];exact hm8.symm)
          have T8:Hid (t5.drop 24=t8):=hid ht8
          clear hA8 hm8 ht8
          obtain ⟨W5,hW5⟩:∃ X,Lib.leNat (t5.take 8)=X:=⟨_,rfl⟩
          have lW5:W5<18446744073709551616:=hW5 ▸ Z5S t5
          have kW5:=Z17 (t:=t5) (by have:=N5.out;omega)
          rw [hW5] at kW5
          have KW5:=hid kW5
          have cW5:∀ W:World,(∀ x,W.cell? x=wr.cell? x)→Calls Tryz.prog 267 #[.slice A5 m5 m5] W fun e w'=>e=.returned (.int .u64 W5)∧∃ q,w'=W.drewN q:=fun W hW=>by rw [←hW5];exact Z21 _ _ _ w.heap.size t5 W N5.out (by omega) ((b5.below hbw (Nat.le_refl _)).keep fun x _=>hW x)
          clear hW5 kW5
          obtain ⟨W6,hW6⟩:∃ X,Lib.leNat (t6.take 8)=X:=⟨_,rfl⟩
          have lW6:W6<18446744073709551616:=hW6 ▸ Z5S t6
          have kW6:=Z17 (t:=t6) (by have:=N6.out;omega)
          rw [hW6] at kW6
          have KW6:=hid kW6
          have cW6:∀ W:World,(∀ x,W.cell? x=wr.cell? x)→Calls Tryz.prog 267 #[.slice A6 m6 m6] W fun e w'=>e=.returned (.int .u64 W6)∧∃ q,w'=W.drewN q:=fun W hW=>by rw [←hW6];exact Z21 _ _ _ w.heap.size t6 W N6.out (by omega) ((b6.below hbw (Nat.le_refl _)).keep fun x _=>hW x)
          clear hW6 kW6
          obtain ⟨W7,hW7⟩:∃ X,Lib.leNat (t7.take 8)=X:=⟨_,rfl⟩
          have lW7:W7<18446744073709551616:=hW7 ▸ Z5S t7
          have kW7:=Z17 (t:=t7) (by have:=N7.out;omega)
          rw [hW7] at kW7
          have KW7:=hid kW7
          have cW7:∀ W:World,(∀ x,W.cell? x=wr.cell? x)→Calls Tryz.prog 267 #[.slice A7 m7 m7] W fun e w'=>e=.returned (.int .u64 W7)∧∃ q,w'=W.drewN q:=fun W hW=>by rw [←hW7];exact Z21 _ _ _ w.heap.size t7 W N7.out (by omega) ((b7.below hbw (Nat.le_refl _)).keep fun x _=>hW x)
          clear hW7 kW7
          obtain ⟨W8,hW8⟩:∃ X,Lib.leNat (t8.take 8)=X:=⟨_,rfl⟩
          have lW8:W8<18446744073709551616:=hW8 ▸ Z5S t8
          have kW8:=Z17 (t:=t8) (by have:=N8.out;omega)
          rw [hW8] at kW8
          have KW8:=hid kW8
          have cW8:∀ W:World,(∀ x,W.cell? x=wr.cell? x)→Calls Tryz.prog 267 #[.slice A8 m8 m8] W fun e w'=>e=.returned (.int .u64 W8)∧∃ q,w'=W.drewN q:=fun W hW=>by rw [←hW8];exact Z21 _ _ _ w.heap.size t8 W N8.out (by omega) ((b8.below hbw (Nat.le_refl _)).keep fun x _=>hW x)
          clear hW8 kW8
          have ho1:bits .or .u64 (W5:Int) (W6:Int)=((W5|||W6:Nat):Int):=u64_or_nat W5 W6 lW5 lW6
          have ho2:bits .or .u64 (W7:Int) (W8:Int)=((W7|||W8:Nat):Int):=u64_or_nat W7 W8 lW7 lW8
          have lo1:W5|||W6<18446744073709551616:=Nat.or_lt_two_pow (n:=64) lW5 lW6
          have lo2:W7|||W8<18446744073709551616:=Nat.or_lt_two_pow (n:=64) lW7 lW8
          have ho3:bits .or .u64 ((W5|||W6:Nat):Int) ((W7|||W8:Nat):Int)=(((W5|||W6)|||(W7|||W8):Nat):Int):=u64_or_nat _ _ lo1 lo2
          have lo3:(W5|||W6)|||(W7|||W8)<18446744073709551616:=Nat.or_lt_two_pow (n:=64) lo1 lo2
          have hand3:bits .and .u64 (((W5|||W6)|||(W7|||W8):Nat):Int) 9259542123273814144=((((W5|||W6)|||(W7|||W8))&&&9259542123273814144:Nat):Int):=u64_and_nat _ 9259542123273814144 lo3 (by omega)
          have k3:((W5|||W6)|||(W7|||W8))&&&9259542123273814144=0→ascL t5 32:=fun h0'=>by
           obtain ⟨e01,e23⟩:=(Lib.or_mask _ _ _).1 h0'
           obtain ⟨e0,e1⟩:=(Lib.or_mask _ _ _).1 e01
           obtain ⟨e2,e3⟩:=(Lib.or_mask _ _ _).1 e23
           have s16:ascL t5 16:=Z5q (a:=8) (b:=8) (KW5.out.1 e0) (by rw [T6.out];exact KW6.out.1 e1)
           have s24:ascL t5 24:=Z5q (a:=16) (b:=8) s16 (by rw [T7.out];exact KW7.out.1 e2)
           exact Z5q (a:=24) (b:=8) s24 (by rw [T8.out];exact KW8.out.1 e3)
          obtain ⟨P1,hP1⟩:∃ P1,W5|||W6=P1:=⟨_,rfl⟩
          obtain ⟨P2,hP2⟩:∃ P2,W7|||W8=P2:=⟨_,rfl⟩
          rw [hP1,hP2] at ho3 hand3 k3
          rw [hP1] at ho1
          rw [hP2] at ho2
          obtain ⟨P3,hP3⟩:∃ P3,P1|||P2=P3:=⟨_,rfl⟩
          rw [hP3] at ho3 hand3 k3
          obtain ⟨Z3,hZ3⟩:∃ Z3,P3&&&9259542123273814144=Z3:=⟨_,rfl⟩
          rw [hZ3] at hand3 k3
          clear KW5 KW6 KW7 KW8 lo1 lo2 lo3 hP1 hP2 hP3 hZ3
          by_cases hz3:Z3=0
          ·have hz3b:((Z3:Int)==0)=true:=by simp [hz3]
           have a32:=hid (k3 hz3)
           clear k3
           obtain ⟨A9,hA9⟩:∃ X,adv A5 m5 32=X:=⟨_,rfl⟩
           obtain ⟨m9,hm9⟩:∃ X,m5-32=X:=⟨_,rfl⟩
           obtain ⟨t9,ht9⟩:∃ X,t5.drop 32=X:=⟨_,rfl⟩
           have g9:m9+32≤m5:=by omega
           have g9':m5≤m9+32:=by omega
           have s9:∀ W,(Instr.slice 55 (.slice A5 m5 m5) (some (.int .i64 32)) none none).run Tryz.prog W=.ok (.slice A9 m9 m9) W:=Z18 (k:=32) rfl hA9 hm9 (by omega)
           have b9:RdB w w.heap.size A9 t9:=by rw [←hA9,←ht9];exact Z3p b5 N5.out (by omega)
           have N9:Hid (m9=t9.length):=hid (by rw [←ht9,List.length_drop,←N5.out];exact hm9.symm)
           have T9:Hid (t5.drop 32=t9):=hid ht9
           clear hA9 hm9 ht9
           have V9:Hid (Lib.validD t9=ANS):=hid (by rw [←T9.out,Z4c a32.out];exact V5.out)
           go_wp2_with (fail)
           go_quiet (first|(go_at_call 267;(with_reducible first|refine Z0Y (cW5 _ (fun _=>rfl))|refine Calls.quiet_of (cW5 _ (fun _=>rfl))))|(go_at_call 267;(with_reducible first|refine Z0Y (cW6 _ (fun _=>rfl))|refine Calls.quiet_of (cW6 _ (fun _=>rfl))))|(go_at_call 267;(with_reducible first|refine Z0Y (cW7 _ (fun _=>rfl))|refine Calls.quiet_of (cW7 _ (fun _=>rfl))))|(go_at_call 267;(with_reducible first|refine Z0Y (cW8 _ (fun _=>rfl))|refine Calls.quiet_of (cW8 _ (fun _=>rfl)))))
           go_wp2_with (fail)
           go_roundg g3
           case measure=>omega
           case rel=>exact ⟨A9,m9,t9,(by first|exact Z0f hbw|exact Z0f (Z0f hbw)),rfl,N9,b9,V9,by omega,by omega⟩
          ·have hz3b:((Z3:Int)==0)=false:=by simp;omega
           clear k3
           go_wp2_with (fail)
           go_quiet (first|(go_at_call 267;(with_reducible first|refine Z0Y (cW5 _ (fun _=>rfl))|refine Calls.quiet_of (cW5 _ (fun _=>rfl))))|(go_at_call 267;(with_reducible first|refine Z0Y (cW6 _ (fun _=>rfl))|refine Calls.quiet_of (cW6 _ (fun _=>rfl))))|(go_at_call 267;(with_reducible first|refine Z0Y (cW7 _ (fun _=>rfl))|refine Calls.quiet_of (cW7 _ (fun _=>rfl))))|(go_at_call 267;(with_reducible first|refine Z0Y (cW8 _ (fun _=>rfl))|refine Calls.quiet_of (cW8 _ (fun _=>rfl)))))
           go_wp2_with (fail)
           go_roundg g'
           case measure=>omega
           case rel=>exact ⟨A5,m5,t5,(by first|exact Z0f hbw|exact Z0f (Z0f hbw)),rfl,N5,b5,V5,by omega,by omega⟩
         ·have c32z:¬ ((32:Int)<(m5:Int)):=by omega
          have c32b:decide ((32:Int)<(m5:Int))=false:=decide_eq_false c32z
          go_wp2_with (fail)
          go_quiet (fail)
          go_wp2_with (fail)
          go_roundg g'
          case measure=>omega
          case rel=>exact ⟨A5,m5,t5,(by first|exact Z0f hbw|exact Z0f (Z0f hbw)),rfl,N5,b5,V5,by omega,by omega⟩
       ·have hz2b:((Z2:Int)==0)=false:=by simp;omega
        clear k2
        go_quiet (first|(go_at_call 267;(with_reducible first|refine Z0Y (cW2 _ (fun _=>rfl))|refine Calls.quiet_of (cW2 _ (fun _=>rfl))))|(go_at_call 267;(with_reducible first|refine Z0Y (cW3 _ (fun _=>rfl))|refine Calls.quiet_of (cW3 _ (fun _=>rfl)))))
        go_wp2_with (fail)
        go_roundg g'
        case measure=>omega
        case rel=>exact ⟨A2,m2,t2,(by first|exact Z0f hbw|exact Z0f (Z0f hbw)),rfl,N2,b2,V2,by omega,by omega⟩
      ·have c16z:¬ ((16:Int)<(m2:Int)):=by omega
       have c16b:decide ((16:Int)<(m2:Int))=false:=decide_eq_false c16z
       go_quiet (fail)
       go_wp2_with (fail)
       go_roundg g'
       case measure=>omega
       case rel=>exact ⟨A2,m2,t2,(by first|exact Z0f hbw|exact Z0f (Z0f hbw)),rfl,N2,b2,V2,by omega,by omega⟩
     ·have hz1b:((Z1:Int)==0)=false:=by simp;omega
      clear kW1
      go_wp2_with (go_at_call 267;(refine (cW1 _ (fun _=>rfl)).mono ?_;rintro e W1 ⟨rfl,q1,rfl⟩))
      go_roundg g'
      case measure=>omega
      case rel=>exact ⟨A1,m1,t1,(by first|exact Z0f hbw|exact Z0f (Z0f hbw)),rfl,N1,b1,V1,by omega,by omega⟩
    ·have c8z:¬ ((8:Int)<(m1:Int)):=by omega
     have c8b:decide ((8:Int)<(m1:Int))=false:=decide_eq_false c8z
     go_wp2_with (fail)
     go_roundg g'
     case measure=>omega
     case rel=>exact ⟨A1,m1,t1,hbw,rfl,N1,b1,V1,by omega,by omega⟩
   ·as_aux_lemma=>
    have hge:128≤x0.toNat:=by omega
    have hascz:¬ ((x0.toNat:Int)<128):=by omega
    obtain ⟨x1,hx1⟩:∃ x1,t.getD 1 0=x1:=⟨_,rfl⟩
    obtain ⟨x2,hx2⟩:∃ x2,t.getD 2 0=x2:=⟨_,rfl⟩
    obtain ⟨x3,hx3⟩:∃ x3,t.getD 3 0=x3:=⟨_,rfl⟩
    have l1:=x1.toNat_lt;have l2:=x2.toNat_lt;have l3:=x3.toNat_lt
    have hg0:t.getD 0 0=x0:=by rw [Z7u _ _ hl0];exact hx0
    have hlead:=Lib.validD_lead t (fun h=>by rw [h] at hl0;simp at hl0) (by rw [hg0];exact hge)
    rw [hg0,hx1,hx2,hx3,←N.out,V.out] at hlead
    have hc0:=hTr.1 x0.toNat hx0lt
    have hXlt:Lib.firstT x0.toNat<256:=by rcases Lib.firstT_cases x0.toNat with h|h|h|h|h|h|h|h|h<;>omega
    obtain ⟨X,hX⟩:∃ X,Lib.firstT x0.toNat=X:=⟨_,rfl⟩
    rw [hX] at hc0 hXlt hlead
    have h7:=and7 ⟨X,hXlt⟩
    simp only at h7
    have ha0:wr.cell? ⟨1,X / 16*2,none⟩=some (.int .u8 (Lib.accLo (X / 16))):=by rw [Nat.mul_comm];exact (hTr.2 (X / 16) (by omega)).1
    have ha1:wr.cell? ⟨1,X / 16*2+1,none⟩=some (.int .u8 (Lib.accHi (X / 16))):=by rw [Nat.mul_comm];exact (hTr.2 (X / 16) (by omega)).2
    obtain ⟨LO,hLO⟩:∃ LO,Lib.accLo (X / 16)=LO:=⟨_,rfl⟩
    obtain ⟨HI,hHI⟩:∃ HI,Lib.accHi (X / 16)=HI:=⟨_,rfl⟩
    rw [hLO] at ha0 hlead
    rw [hHI] at ha1 hlead
    obtain ⟨SZ,hSZ⟩:∃ SZ,X % 8=SZ:=⟨_,rfl⟩
    rw [hSZ] at hlead
    have hsz:ad.block<wr.heap.size:=by have:=hbw.size;omega
    have ex2:1<t.length→wr.cell? { block:=ad.block,off:=ad.off+1 }=some (.int .u8 (x1.toNat:Int)):=fun hl=>by have c:=r.atS 0 (by omega);rw [←hx1,Z7u _ _ hl];exact c
    have ex3:2<t.length→wr.cell? { block:=ad.block,off:=ad.off+2 }=some (.int .u8 (x2.toNat:Int)):=fun hl=>by have c:=r.atS 1 (by omega);rw [←hx2,Z7u _ _ hl];exact c
    have ex4:3<t.length→wr.cell? { block:=ad.block,off:=ad.off+3 }=some (.int .u8 (x3.toNat:Int)):=fun hl=>by have c:=r.atS 2 (by omega);rw [←hx3,Z7u _ _ hl];exact c
    have EX:=hid (And.intro ex2 (And.intro ex3 ex4))
    clear ex2 ex3 ex4 hTr hT hX hLO hHI hx0 hx1 hx2 hx3 hg0
    by_cases s2:SZ=2
    ·as_aux_lemma=>
     subst s2
     have hSZz:(X:Int) % 8=2:=by omega
     simp only [Lib.checkN,Nat.reduceEqDiff,if_true,if_false] at hlead
     have HL:=hid hlead
     clear hlead
     go_upto_region 18 with fail
     go_cut [103] from 85 to 103 (fun c wx=>c=.bool (decide (m<2∨x1.toNat<LO∨HI<x1.toNat))∧Below w.heap.size w wx)
     case first=>as_aux_lemma=>
      by_cases q0:m<2
      ·have q0z:(m:Int)<2:=by omega
       go_quiet (fail)
       go_wp2_with (fail)
       go_meet
       exact ⟨congrArg Value.bool (decide_eq_true (p:=m<2∨x1.toNat<LO∨HI<x1.toNat) (by omega)).symm,Z0f (hbw.alloc hbw.size _)⟩
      ·have q0z:¬ ((m:Int)<2):=by omega
       have hz1:(1:Int)<(m:Int):=by omega
       have hp1:1<m:=by omega
       have ce1:=EX.out.1 (by have:=N.out;omega)
       by_cases q1:x1.toNat<LO
       ·have q1z:(x1.toNat:Int)<(LO:Int):=by omega
        go_quiet (fail)
        go_wp2_with (fail)
        go_meet
        exact ⟨congrArg Value.bool (decide_eq_true (p:=m<2∨x1.toNat<LO∨HI<x1.toNat) (by omega)).symm,Z0f (hbw.alloc hbw.size _)⟩
       ·have q1z:¬ ((x1.toNat:Int)<(LO:Int)):=by omega
        by_cases q2:HI<x1.toNat
        ·have q2z:(HI:Int)<(x1.toNat:Int):=by omega
         go_quiet (fail)
         go_wp2_with (fail)
         go_meet
         exact ⟨congrArg Value.bool (decide_eq_true (p:=m<2∨x1.toNat<LO∨HI<x1.toNat) (by omega)).symm,Z0f (hbw.alloc hbw.size _)⟩
        ·have q2z:¬ ((HI:Int)<(x1.toNat:Int)):=by omega
         go_quiet (fail)
         go_wp2_with (fail)
         go_meet
         exact ⟨congrArg Value.bool (decide_eq_false (p:=m<2∨x1.toNat<LO∨HI<x1.toNat) (by omega)).symm,Z0f (hbw.alloc hbw.size _)⟩
     case rest=>as_aux_lemma=>
      obtain ⟨rfl,hbc⟩:=hcut
      by_cases hb:m<2∨x1.toNat<LO∨HI<x1.toNat
      ·have hbd:decide (m<2∨x1.toNat<LO∨HI<x1.toNat)=true:=decide_eq_true hb
       have hl2:=HL.out
       rw [if_pos hb] at hl2
       simp only at hl2
       have HL2:=hid hl2
       clear hl2
       go_wp2_with (fail)
       all_goals (go_ret;exact ⟨by first|rfl|(rw [HL2.out];rfl),hbc⟩)
      ·have hbd:decide (m<2∨x1.toNat<LO∨HI<x1.toNat)=false:=decide_eq_false hb
       have hkm:2≤m:=by omega
       have V1:Hid (Lib.validD (t.drop 2)=ANS):=hid (by have hl2:=HL.out;rw [if_neg hb] at hl2;exact hl2.symm)
       clear HL
       obtain ⟨A2,hA2⟩:∃ X,adv (some ad) m 2=X:=⟨_,rfl⟩
       obtain ⟨m2,hm2⟩:∃ X,m-2=X:=⟨_,rfl⟩
       obtain ⟨t2,ht2⟩:∃ X,t.drop 2=X:=⟨_,rfl⟩
       have g2:m2+2≤m:=by omega
       have g2':m≤m2+2:=by omega
       have s2:∀ W,(Instr.slice 55 (.slice (some ad) m m) (some (.int .i64 2)) none none).run Tryz.prog W=.ok (.slice A2 m2 m2) W:=Z18 (k:=2) rfl hA2 hm2 (by omega)
       have b2:RdB w w.heap.size A2 t2:=by rw [←hA2,←ht2];exact Z3p b N.out (by omega)
       have N2:Hid (m2=t2.length):=hid (by rw [←ht2,List.length_drop,←N.out];exact hm2.symm)
       have T2:Hid (t.drop 2=t2):=hid ht2
       clear hA2 hm2 ht2
       have V2:Hid (Lib.validD t2=ANS):=hid (by rw [←T2.out];exact V1.out)
       go_wp2_with (fail)
       go_roundg g'
       case measure=>omega
       case rel=>exact ⟨A2,m2,t2,hbc,rfl,N2,b2,V2,by omega,by omega⟩
    by_cases s3:SZ=3
    ·as_aux_lemma=>
     subst s3
     have hSZz:(X:Int) % 8=3:=by omega
     simp only [Lib.checkN,Nat.reduceEqDiff,if_true,if_false] at hlead
     have HL:=hid hlead
     clear hlead
     go_upto_region 22 with fail
     go_cut [138] from 108 to 138 (fun c wx=>c=.bool (decide (m<3∨x1.toNat<LO∨HI<x1.toNat∨x2.toNat<128∨191<x2.toNat))∧Below w.heap.size w wx)
     case first=>as_aux_lemma=>
      by_cases q0:m<3
      ·have q0z:(m:Int)<3:=by omega
       go_quiet (fail)
       go_wp2_with (fail)
       go_meet
       exact ⟨congrArg Value.bool (decide_eq_true (p:=m<3∨x1.toNat<LO∨HI<x1.toNat∨x2.toNat<128∨191<x2.toNat) (by omega)).symm,Z0f (hbw.alloc hbw.size _)⟩
      ·have q0z:¬ ((m:Int)<3):=by omega
       have hz1:(1:Int)<(m:Int):=by omega
       have hp1:1<m:=by omega
       have ce1:=EX.out.1 (by have:=N.out;omega)
       have hz2:(2:Int)<(m:Int):=by omega
       have hp2:2<m:=by omega
       have ce2:=EX.out.2.1 (by have:=N.out;omega)
       by_cases q1:x1.toNat<LO
       ·have q1z:(x1.toNat:Int)<(LO:Int):=by omega
        go_quiet (fail)
        go_wp2_with (fail)
        go_meet
        exact ⟨congrArg Value.bool (decide_eq_true (p:=m<3∨x1.toNat<LO∨HI<x1.toNat∨x2.toNat<128∨191<x2.toNat) (by omega)).symm,Z0f (hbw.alloc hbw.size _)⟩
       ·have q1z:¬ ((x1.toNat:Int)<(LO:Int)):=by omega
        by_cases q2:HI<x1.toNat
        ·have q2z:(HI:Int)<(x1.toNat:Int):=by omega
         go_quiet (fail)
         go_wp2_with (fail)
         go_meet
         exact ⟨congrArg Value.bool (decide_eq_true (p:=m<3∨x1.toNat<LO∨HI<x1.toNat∨x2.toNat<128∨191<x2.toNat) (by omega)).symm,Z0f (hbw.alloc hbw.size _)⟩
        ·have q2z:¬ ((HI:Int)<(x1.toNat:Int)):=by omega
         by_cases q3:x2.toNat<128
         ·have q3z:(x2.toNat:Int)<128:=by omega
          go_quiet (fail)
          go_wp2_with (fail)
          go_meet
          exact ⟨congrArg Value.bool (decide_eq_true (p:=m<3∨x1.toNat<LO∨HI<x1.toNat∨x2.toNat<128∨191<x2.toNat) (by omega)).symm,Z0f (hbw.alloc hbw.size _)⟩
         ·have q3z:¬ ((x2.toNat:Int)<128):=by omega
          by_cases q4:191<x2.toNat
          ·have q4z:(191:Int)<(x2.toNat:Int):=by omega
           go_quiet (fail)
           go_wp2_with (fail)
           go_meet
           exact ⟨congrArg Value.bool (decide_eq_true (p:=m<3∨x1.toNat<LO∨HI<x1.toNat∨x2.toNat<128∨191<x2.toNat) (by omega)).symm,Z0f (hbw.alloc hbw.size _)⟩
          ·have q4z:¬ ((191:Int)<(x2.toNat:Int)):=by omega
           go_quiet (fail)
           go_wp2_with (fail)
           go_meet
           exact ⟨congrArg Value.bool (decide_eq_false (p:=m<3∨x1.toNat<LO∨HI<x1.toNat∨x2.toNat<128∨191<x2.toNat) (by omega)).symm,Z0f (hbw.alloc hbw.size _)⟩
     case rest=>as_aux_lemma=>
      obtain ⟨rfl,hbc⟩:=hcut
      by_cases hb:m<3∨x1.toNat<LO∨HI<x1.toNat∨x2.toNat<128∨191<x2.toNat
      ·have hbd:decide (m<3∨x1.toNat<LO∨HI<x1.toNat∨x2.toNat<128∨191<x2.toNat)=true:=decide_eq_true hb
       have hl2:=HL.out
       rw [if_pos hb] at hl2
       simp only at hl2
       have HL2:=hid hl2
       clear hl2
       go_wp2_with (fail)
       all_goals (go_ret;exact ⟨by first|rfl|(rw [HL2.out];rfl),hbc⟩)
      ·have hbd:decide (m<3∨x1.toNat<LO∨HI<x1.toNat∨x2.toNat<128∨191<x2.toNat)=false:=decide_eq_false hb
       have hkm:3≤m:=by omega
       have V1:Hid (Lib.validD (t.drop 3)=ANS):=hid (by have hl2:=HL.out;rw [if_neg hb] at hl2;exact hl2.symm)
       clear HL
       obtain ⟨A2,hA2⟩:∃ X,adv (some ad) m 3=X:=⟨_,rfl⟩
       obtain ⟨m2,hm2⟩:∃ X,m-3=X:=⟨_,rfl⟩
       obtain ⟨t2,ht2⟩:∃ X,t.drop 3=X:=⟨_,rfl⟩
       have g2:m2+3≤m:=by omega
       have g2':m≤m2+3:=by omega
       have s2:∀ W,(Instr.slice 55 (.slice (some ad) m m) (some (.int .i64 3)) none none).run Tryz.prog W=.ok (.slice A2 m2 m2) W:=Z18 (k:=3) rfl hA2 hm2 (by omega)
       have b2:RdB w w.heap.size A2 t2:=by rw [←hA2,←ht2];exact Z3p b N.out (by omega)
       have N2:Hid (m2=t2.length):=hid (by rw [←ht2,List.length_drop,←N.out];exact hm2.symm)
       have T2:Hid (t.drop 3=t2):=hid ht2
       clear hA2 hm2 ht2
       have V2:Hid (Lib.validD t2=ANS):=hid (by rw [←T2.out];exact V1.out)
       go_wp2_with (fail)
       go_roundg g'
       case measure=>omega
       case rel=>exact ⟨A2,m2,t2,hbc,rfl,N2,b2,V2,by omega,by omega⟩
    by_cases s4:SZ=4
    ·as_aux_lemma=>
     subst s4
     have hSZz:(X:Int) % 8=4:=by omega
     simp only [Lib.checkN,Nat.reduceEqDiff,if_true,if_false] at hlead
     have HL:=hid hlead
     clear hlead
     go_upto_region 26 with fail
     go_cut [185] from 143 to 185 (fun c wx=>c=.bool (decide (m<4∨x1.toNat<LO∨HI<x1.toNat∨x2.toNat<128∨191<x2.toNat∨x3.toNat<128∨191<x3.toNat))∧Below w.heap.size w wx)
     case first=>as_aux_lemma=>
      by_cases q0:m<4
      ·have q0z:(m:Int)<4:=by omega
       go_quiet (fail)
       go_wp2_with (fail)
       go_meet
       exact ⟨congrArg Value.bool (decide_eq_true (p:=m<4∨x1.toNat<LO∨HI<x1.toNat∨x2.toNat<128∨191<x2.toNat∨x3.toNat<128∨191<x3.toNat) (by omega)).symm,Z0f (hbw.alloc hbw.size _)⟩
      ·have q0z:¬ ((m:Int)<4):=by omega
       have hz1:(1:Int)<(m:Int):=by omega
       have hp1:1<m:=by omega
       have ce1:=EX.out.1 (by have:=N.out;omega)
       have hz2:(2:Int)<(m:Int):=by omega
       have hp2:2<m:=by omega
       have ce2:=EX.out.2.1 (by have:=N.out;omega)
       have hz3:(3:Int)<(m:Int):=by omega
       have hp3:3<m:=by omega
       have ce3:=EX.out.2.2 (by have:=N.out;omega)
       by_cases q1:x1.toNat<LO
       ·have q1z:(x1.toNat:Int)<(LO:Int):=by omega
        go_quiet (fail)
        go_wp2_with (fail)
        go_meet
        exact ⟨congrArg Value.bool (decide_eq_true (p:=m<4∨x1.toNat<LO∨HI<x1.toNat∨x2.toNat<128∨191<x2.toNat∨x3.toNat<128∨191<x3.toNat) (by omega)).symm,Z0f (hbw.alloc hbw.size _)⟩
       ·have q1z:¬ ((x1.toNat:Int)<(LO:Int)):=by omega
        by_cases q2:HI<x1.toNat
        ·have q2z:(HI:Int)<(x1.toNat:Int):=by omega
         go_quiet (fail)
         go_wp2_with (fail)
         go_meet
         exact ⟨congrArg Value.bool (decide_eq_true (p:=m<4∨x1.toNat<LO∨HI<x1.toNat∨x2.toNat<128∨191<x2.toNat∨x3.toNat<128∨191<x3.toNat) (by omega)).symm,Z0f (hbw.alloc hbw.size _)⟩
        ·have q2z:¬ ((HI:Int)<(x1.toNat:Int)):=by omega
         by_cases q3:x2.toNat<128
         ·have q3z:(x2.toNat:Int)<128:=by omega
          go_quiet (fail)
          go_wp2_with (fail)
          go_meet
          exact ⟨congrArg Value.bool (decide_eq_true (p:=m<4∨x1.toNat<LO∨HI<x1.toNat∨x2.toNat<128∨191<x2.toNat∨x3.toNat<128∨191<x3.toNat) (by omega)).symm,Z0f (hbw.alloc hbw.size _)⟩
         ·have q3z:¬ ((x2.toNat:Int)<128):=by omega
          by_cases q4:191<x2.toNat
          ·have q4z:(191:Int)<(x2.toNat:Int):=by omega
           go_quiet (fail)
           go_wp2_with (fail)
           go_meet
           exact ⟨congrArg Value.bool (decide_eq_true (p:=m<4∨x1.toNat<LO∨HI<x1.toNat∨x2.toNat<128∨191<x2.toNat∨x3.toNat<128∨191<x3.toNat) (by omega)).symm,Z0f (hbw.alloc hbw.size _)⟩
          ·have q4z:¬ ((191:Int)<(x2.toNat:Int)):=by omega
           by_cases q5:x3.toNat<128
           ·have q5z:(x3.toNat:Int)<128:=by omega
            go_quiet (fail)
            go_wp2_with (fail)
            go_meet
            exact ⟨congrArg Value.bool (decide_eq_true (p:=m<4∨x1.toNat<LO∨HI<x1.toNat∨x2.toNat<128∨191<x2.toNat∨x3.toNat<128∨191<x3.toNat) (by omega)).symm,Z0f (hbw.alloc hbw.size _)⟩
           ·have q5z:¬ ((x3.toNat:Int)<128):=by omega
            by_cases q6:191<x3.toNat
            ·have q6z:(191:Int)<(x3.toNat:Int):=by omega
             go_quiet (fail)
             go_wp2_with (fail)
             go_meet
             exact ⟨congrArg Value.bool (decide_eq_true (p:=m<4∨x1.toNat<LO∨HI<x1.toNat∨x2.toNat<128∨191<x2.toNat∨x3.toNat<128∨191<x3.toNat) (by omega)).symm,Z0f (hbw.alloc hbw.size _)⟩
            ·have q6z:¬ ((191:Int)<(x3.toNat:Int)):=by omega
             go_quiet (fail)
             go_wp2_with (fail)
             go_meet
             exact ⟨congrArg Value.bool (decide_eq_false (p:=m<4∨x1.toNat<LO∨HI<x1.toNat∨x2.toNat<128∨191<x2.toNat∨x3.toNat<128∨191<x3.toNat) (by omega)).symm,Z0f (hbw.alloc hbw.size _)⟩
     case rest=>as_aux_lemma=>
      obtain ⟨rfl,hbc⟩:=hcut
      by_cases hb:m<4∨x1.toNat<LO∨HI<x1.toNat∨x2.toNat<128∨191<x2.toNat∨x3.toNat<128∨191<x3.toNat
      ·have hbd:decide (m<4∨x1.toNat<LO∨HI<x1.toNat∨x2.toNat<128∨191<x2.toNat∨x3.toNat<128∨191<x3.toNat)=true:=decide_eq_true hb
       have hl2:=HL.out
       rw [if_pos hb] at hl2
       simp only at hl2
       have HL2:=hid hl2
       clear hl2
       go_wp2_with (fail)
       all_goals (go_ret;exact ⟨by first|rfl|(rw [HL2.out];rfl),hbc⟩)
      ·have hbd:decide (m<4∨x1.toNat<LO∨HI<x1.toNat∨x2.toNat<128∨191<x2.toNat∨x3.toNat<128∨191<x3.toNat)=false:=decide_eq_false hb
       have hkm:4≤m:=by omega
       have V1:Hid (Lib.validD (t.drop 4)=ANS):=hid (by have hl2:=HL.out;rw [if_neg hb] at hl2;exact hl2.symm)
       clear HL
       obtain ⟨A2,hA2⟩:∃ X,adv (some ad) m 4=X:=⟨_,rfl⟩
       obtain ⟨m2,hm2⟩:∃ X,m-4=X:=⟨_,rfl⟩
       obtain ⟨t2,ht2⟩:∃ X,t.drop 4=X:=⟨_,rfl⟩
       have g2:m2+4≤m:=by omega
       have g2':m≤m2+4:=by omega
       have s2:∀ W,(Instr.slice 55 (.slice (some ad) m m) (some (.int .i64 4)) none none).run Tryz.prog W=.ok (.slice A2 m2 m2) W:=Z18 (k:=4) rfl hA2 hm2 (by omega)
       have b2:RdB w w.heap.size A2 t2:=by rw [←hA2,←ht2];exact Z3p b N.out (by omega)
       have N2:Hid (m2=t2.length):=hid (by rw [←ht2,List.length_drop,←N.out];exact hm2.symm)
       have T2:Hid (t.drop 4=t2):=hid ht2
       clear hA2 hm2 ht2
       have V2:Hid (Lib.validD t2=ANS):=hid (by rw [←T2.out];exact V1.out)
       go_wp2_with (fail)
       go_roundg g'
       case measure=>omega
       case rel=>exact ⟨A2,m2,t2,hbc,rfl,N2,b2,V2,by omega,by omega⟩
    have e2b:(((X:Int) % 8)==2)=false:=by simp;omega
    have e3b:(((X:Int) % 8)==3)=false:=by simp;omega
    have e4b:(((X:Int) % 8)==4)=false:=by simp;omega
    simp only [Lib.checkN,s2,s3,s4,if_false] at hlead
    have HL:=hid hlead
    clear hlead
    go_wp2_with (fail)
    all_goals (go_ret;exact ⟨by first|rfl|(rw [HL.out];rfl),hbw.alloc hbw.size _⟩)
  ·have h0z:¬ ((0:Int)<(m:Int)):=by omega
   have ht0:t=[]:=List.eq_nil_of_length_eq_zero (by have:=N.out;omega)
   have v:=V.out
   rw [ht0,Lib.validD_nil] at v
   subst v
   clear ht0
   go_wp2_with (fail)
   go_ret
   exact ⟨rfl,hbw⟩
  end Go.Proofs.YtnmedachaeanbaaGreatDoor
namespace Go.Proofs.YtnmedachaeanbaaGreatDoor
open Go.RowKit
set_option linter.unusedVariables false
def advS (A:Option Addr) (c k s:Nat):Option Addr:=if c=k then A else A.map (·.add (k*s))
section
variable {P:Program} {T E:TypeId} {s n n' c c' k l:Nat} {A A':Option Addr} {y z:Int}
theorem Z9B (hT:P.underlying T=some (.slice E)) (hE:P.elem T=E) (hs:∀ W,(sizeOf E).run P W=.ok s W) (hz:z=(k:Int)) (hA:advS A c k s=A') (hn:n-k=n') (hc:c-k=c') (hk:k≤n) (hnc:n≤c) (W:World) :
 (Instr.slice T (.slice A n c) (some (.int .i64 z)) none none).run P W=.ok (.slice A' n' c') W:=by
 subst hz;subst hA;subst hn;subst hc
 rw [run_slice_l W T A n c (by rw [hE];exact hT) .i64 (k:Int) (by omega) (by omega),hE,hs]
 simp [sliced,advS,Result.andThen]
theorem Y6V (hT:P.underlying T=some (.slice E)) (hE:P.elem T=E) (hs:∀ W,(sizeOf E).run P W=.ok s W) (hy:y=(k:Int)) (hz:z=(l:Int)) (hA:advS A c k s=A') (hn:l-k=n') (hc:c-k=c') (hk:k≤l) (hl:l≤c) (W:World) :
 (Instr.slice T (.slice A n c) (some (.int .i64 y)) (some (.int .i64 z)) none).run P W=.ok (.slice A' n' c') W:=by
 subst hy;subst hz;subst hA;subst hn;subst hc
 rw [run_slice_lh W T A n c (by rw [hE];exact hT) .i64 .i64 (k:Int) (l:Int) (by omega) (by omega) (by omega),hE,hs]
 simp [sliced,advS,Result.andThen]
theorem sl_to (hT:P.underlying T=some (.slice E)) (hE:P.elem T=E) (hs:∀ W,(sizeOf E).run P W=.ok s W) (hz:z=(l:Int)) (hl:l≤c) (W:World) :
 (Instr.slice T (.slice A n c) none (some (.int .i64 z)) none).run P W=.ok (.slice A l c) W:=by
 subst hz
 rw [run_slice_h W T A n c (by rw [hE];exact hT) .i64 (l:Int) (by omega) (by omega),hE,hs]
 cases A<;>simp [sliced,Result.andThen,Z0n]
end
section
variable {α:Type} {enc:α→List Value} {s:Nat} {w:World} {B n c k:Nat} {A A':Option Addr} {l:List α}
theorem Rd.advS (h:Rd enc s w B A l) (hk:k≤l.length) (hc:l.length≤c):Rd enc s w B (advS A c k s) (l.drop k):=h.cut hk hc
end
end Go.Proofs.YtnmedachaeanbaaGreatDoor
