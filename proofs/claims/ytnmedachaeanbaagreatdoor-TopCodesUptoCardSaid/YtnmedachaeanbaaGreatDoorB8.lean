/- Merged texts. -/
import Derived.Lib.SliceRun
import Derived.Test.YtnmedachaeanbaaGreatDoorB7
namespace Go.Proofs.YtnmedachaeanbaaGreatDoor
set_option maxRecDepth 100000
set_option maxHeartbeats 3200000
open Go.RowKit
open Go.Lib (hid)
set_option linter.unusedVariables false
set_option linter.unusedSimpArgs false
def Y66 (l:List Int) (w:World) (e:Ending) (w':World):Prop := ∃ A c,e=.returned (.slice A l.length c)∧OwU8 w' w.heap.size (.slice A l.length c) l∧Below w.heap.size w w'
theorem Z5Z (A:Option Addr) (n c:Nat) (l:List Int) (w:World) (hn:n=l.length) (h:RdU8 w w.heap.size A l) (hb:n≤1000000000) :
 Calls Tryz.prog 321 #[.slice A n c] w (Y66 l w):=by
 cases A with
 | none=>
   have hl:l=[]:=by
    cases l with
    | nil=>rfl
    | cons a l=>obtain ⟨ad,e,_⟩:=h (by simp);cases e
   subst hl
   have hn0:n=0:=by simpa using hn
   subst hn0
   clear hn
   have hq:=fun (w:World)=>Lib.run_eql_slice_nil (P:=Tryz.prog) w 55 5 none 0 c 0 0 Tryz.slU8
   go_enter Tryz.func321,Tryz.ntmps321
   go_wp2_with (fail)
   go_ret
   exact ⟨none,0,rfl,Ow.nil _ _,Below.refl _ _⟩
 | some ad=>
   have N:=hid hn
   clear hn
   have hq:=fun (w:World)=>Lib.run_eql_slice_nil (P:=Tryz.prog) w 55 5 (some ad) n c 0 0 Tryz.slU8
   go_enter Tryz.func321,Tryz.ntmps321
   go_wp2_with (first
    | (at_builtin;refine Z3l (m:=l) rfl (.tmp 5) (.tmp 6) rfl rfl (by exact Ow.empty _ w.heap.size _) _ _ _ _ rfl N.out (by exact h.ext (Z0b w _)) (by have:=N.out;simp only [List.length_nil];omega) (by simp) ?_;intro v' w' hown' hgr hv'))
   rw [List.nil_append] at hown'
   obtain ⟨A',c',rfl,_,_⟩:=hown'.form
   go_ret
   exact ⟨A',c',rfl,hown',(Z0b w _).grown hgr (by simp) (fun k hk=>by cases hk)⟩
def Z48 (n:Nat):Option (Nat×List Int)→Value
 | some (v,r)=>.tuple #[.int .i64 (zagP v),.int .i64 ((n-r.length:Nat):Int),.int .i64 0]
 | none=>.tuple #[.int .i64 0,.int .i64 0,.int .i64 3]
theorem Y0M (A:Option Addr) (n c k0:Nat) (b:List Int) (w:World) (hn:n=b.length) (hc:n≤c) (h:RdU8 w w.heap.size A b) (hu:U8 b) (hb:n≤1000000000) (hk:k0≤n) :
 Calls Tryz.prog 320 #[.slice A n c,.int .i64 (k0:Int)] w fun e w'=>e=.returned (Z48 n (rdU 0 (b.drop k0)))∧w'=w:=by
 have HU:=hid (Z7C A n c k0 b w hn hc h hu hb hk)
 have HL:Hid (∀ v r,rdU 0 (b.drop k0)=some (v,r)→v<2 ^ 64):=hid (fun v r e=>(Z20 (fun x hx=>hu x (List.mem_of_mem_drop hx)) e).2)
 obtain ⟨o,ho⟩:∃ X,rdU 0 (b.drop k0)=X:=⟨_,rfl⟩
 rw [ho] at HU HL
 rw [ho]
 clear ho hn h hu
 cases o with
 | none=>
   unfold Z4H at HU
   simp only at HU
   go_enter Tryz.func320,Tryz.ntmps320
   go_wp2_with (go_at_call 248;refine Hid.out ?_)
   refine hid ?_
   refine HU.out.mono ?_
   rintro e w2 ⟨rfl,rfl⟩
   go_wp2_with (go_at_call 350;refine Hid.out ?_)
   refine hid ?_
   refine (Y27 0 _ (by decide)).mono ?_
   rintro e w3 ⟨rfl,rfl⟩
   go_wp2_with (fail)
   go_ret3
   exact ⟨rfl,rfl⟩
 | some z=>
   obtain ⟨v,r⟩:=z
   have hv:=hid (HL.out v r rfl)
   obtain ⟨q,hq⟩:∃ X,n-r.length=X:=⟨_,rfl⟩
   have HQ:=hid hq
   unfold Z4H at HU
   simp only at HU
   rw [hq] at HU
   clear hq HL
   go_enter Tryz.func320,Tryz.ntmps320
   go_wp2_with (go_at_call 248;refine Hid.out ?_)
   refine hid ?_
   refine HU.out.mono ?_
   rintro e w2 ⟨rfl,rfl⟩
   go_wp2_with (go_at_call 350;refine Hid.out ?_)
   refine hid ?_
   refine (Y27 v _ hv.out).mono ?_
   rintro e w3 ⟨rfl,rfl⟩
   go_wp2_with (fail)
   go_ret3
   exact ⟨by unfold Z48;simp only;rw [HQ.out];rfl,rfl⟩
def Y0N (n:Nat) (w:World) (e:Ending) (w':World):Option (List Int×List Int)→Prop
 | some (x,r) => ∃ A c,e=.returned (.tuple #[.slice A x.length c,.int .i64 ((n-r.length:Nat):Int),.int .i64 0])∧OwU8 w' w.heap.size (.slice A x.length c) x∧Below w.heap.size w w'
 | none=>e=.returned (.tuple #[.slice none 0 0,.int .i64 0,.int .i64 3])∧Below w.heap.size w w'
theorem Y1I (A:Option Addr) (n c k0 most:Nat) (b:List Int) (w:World) (hn:n=b.length) (hc:n≤c) (h:RdU8 w w.heap.size A b) (hu:U8 b) (hb:n≤1000000000) (hk:k0≤n) (hmo:most≤1000000000) :
 Calls Tryz.prog 251 #[.slice A n c,.int .i64 (k0:Int),.int .i64 (most:Int)] w fun e w'=>Y0N n w e w' (pB most (b.drop k0)):=by
 have HU:=hid (Z7C A n c k0 b w hn hc h hu hb hk)
 have HP:Hid (pB most (b.drop k0)=(pU most (b.drop k0)).bind fun z=>if z.1≤z.2.length then some (z.2.take z.1,z.2.drop z.1) else none):=hid rfl
 obtain ⟨P,hP⟩:∃ X,pB most (b.drop k0)=X:=⟨_,rfl⟩
 rw [hP] at HP
 rw [hP]
 clear hP
 have hwm:IntKind.u64.wrap (most:Int)=(most:Int):=IntWalk.u64_in _ (by omega)
 have hm0:¬ ((most:Int)<0):=by omega
 cases ho:rdU 0 (b.drop k0) with
 | none=>
   have HE:Hid (none=P):=hid (by rw [HP.out,pU,ho];rfl)
   rw [ho] at HU
   clear ho hn h hu
   go_enter Tryz.func251,Tryz.ntmps251
   go_wp2_with (go_at_call 248;refine Hid.out ?_)
   refine hid ?_
   refine HU.out.mono ?_
   rintro e w2 ⟨rfl,rfl⟩
   unfold Z4H
   go_wp2_with (fail)
   go_ret3
   rw [←HE.out]
   exact ⟨rfl,Below.refl _ _⟩
 | some z=>
   obtain ⟨v,r⟩:=z
   obtain ⟨e1,e2⟩:=Z20 (fun x hx=>hu x (List.mem_of_mem_drop hx)) ho
   have hrl:(uv v).length+r.length=n-k0:=by rw [←List.length_append,←e1,List.length_drop,hn]
   obtain ⟨q,hq⟩:∃ X,n-r.length=X:=⟨_,rfl⟩
   have hr:b.drop q=r:=by
    have h1:b.drop (k0+(uv v).length)=r:=by rw [←List.drop_drop,e1,List.drop_left]
    rw [←h1]
    congr 1
    omega
   have hv:v<18446744073709551616:=e2
   have hqn:q≤n:=by omega
   have hnq:(n:Int)-(q:Int)=(r.length:Int):=by omega
   have hwr:IntKind.u64.wrap ((n:Int)-(q:Int))=(r.length:Int):=by rw [hnq];exact IntWalk.u64_in _ (by omega)
   rw [ho] at HU
   have HP2:Hid (P=if v≤most then (if v≤r.length then some (r.take v,r.drop v) else none) else none):=hid (by
    rw [HP.out,pU,ho]
    simp only [Option.bind_some]
    split<;>rfl)
   have N:=hid hn
   have H:=hid h
   have HR:=hid hr
   have HRL:=hid hrl
   have HQ:=hid hq
   clear e1 ho hrl hr h hu hn e2
   by_cases t1:v≤most
   ·by_cases t2:v≤r.length
    ·have hE:Hid (P=some (r.take v,r.drop v)):=hid (by rw [HP2.out,if_pos t1,if_pos t2])
     have g1:¬ ((most:Int)<(v:Int)):=by omega
     have g2:¬ ((r.length:Int)<(v:Int)):=by omega
     have hwv:IntKind.i64.wrap (v:Int)=(v:Int):=IntWalk.i64_in _ (by omega)
     have hws:IntKind.i64.wrap ((q:Int)+(v:Int))=(q:Int)+(v:Int):=IntWalk.i64_in _ (by omega)
     obtain ⟨A',hA⟩:∃ X,advS A c q 1=X:=⟨_,rfl⟩
     obtain ⟨c',hc'⟩:∃ X,c-q=X:=⟨_,rfl⟩
     have hqv:q+v≤n:=by have:=HQ.out;have:=HRL.out;omega
     have sl:∀ W,(Instr.slice 55 (.slice A n c) (some (.int .i64 (q:Int))) (some (.int .i64 ((q:Int)+(v:Int)))) none).run Tryz.prog W=.ok (.slice A' v c') W:=Y6V (l:=q+v) Tryz.slU8 Tryz.elU8 size_u8 rfl (by omega) hA (by omega) hc' (by omega) (by omega)
     have RD:Hid (RdU8 w w.heap.size A' (r.take v)):=hid (by rw [←hA,←HR.out];exact (H.out.advS (by have:=N.out;omega) (by have:=N.out;omega)).take v)
     have LT:Hid (v=(r.take v).length):=hid (by rw [List.length_take];omega)
     clear hA hc'
     obtain ⟨x,hx⟩:∃ X,r.take v=X:=⟨_,rfl⟩
     rw [hx] at RD LT hE
     clear hx
     unfold Z4H at HU
     simp only at HU
     rw [HQ.out] at HU
     have HL:Hid (n-(r.drop v).length=q+v):=hid (by rw [List.length_drop];have:=HQ.out;have:=HRL.out;omega)
     go_enter Tryz.func251,Tryz.ntmps251
     go_wp2_with (go_at_call 248;refine Hid.out ?_)
     refine hid ?_
     refine HU.out.mono ?_
     rintro e w2 ⟨rfl,rfl⟩
     go_wp2_with (go_at_call 321;refine Hid.out ?_)
     refine hid ?_
     refine (Z5Z A' v c' x _ LT.out RD.out (by omega)).mono ?_
     rintro e w3 ⟨A3,c3,rfl,ho3,y3⟩
     go_wp2_with (fail)
     go_ret3
     rw [hE.out]
     refine ⟨A3,c3,?_,ho3,y3⟩
     rw [HL.out]
     rfl
    ·have hE:Hid (P=none):=hid (by rw [HP2.out,if_pos t1,if_neg t2])
     have g1:¬ ((most:Int)<(v:Int)):=by omega
     have g2:(r.length:Int)<(v:Int):=by omega
     unfold Z4H at HU
     simp only at HU
     rw [HQ.out] at HU
     go_enter Tryz.func251,Tryz.ntmps251
     go_wp2_with (go_at_call 248;refine Hid.out ?_)
     refine hid ?_
     refine HU.out.mono ?_
     rintro e w2 ⟨rfl,rfl⟩
     go_wp2_with (fail)
     go_ret3
     rw [hE.out]
     exact ⟨rfl,Below.refl _ _⟩
   ·have hE:Hid (P=none):=hid (by rw [HP2.out,if_neg t1])
    have g1:(most:Int)<(v:Int):=by omega
    unfold Z4H at HU
    simp only at HU
    rw [HQ.out] at HU
    go_enter Tryz.func251,Tryz.ntmps251
    go_wp2_with (go_at_call 248;refine Hid.out ?_)
    refine hid ?_
    refine HU.out.mono ?_
    rintro e w2 ⟨rfl,rfl⟩
    go_wp2_with (fail)
    go_ret3
    rw [hE.out]
    exact ⟨rfl,Below.refl _ _⟩
theorem Y8g {y:Nat}:bits .or .u8 ((y:Int) % 256) 128=((y % 128+128:Nat):Int):=by
 rw [Lib.u8_or128_any _ (by omega) (by omega)]
 omega
theorem Z9I (m:Nat) (w:World) (hm:m<2 ^ 64):Calls Tryz.prog 352 #[.slice none 0 0,.int .u64 (m:Int)] w (Y66 (uv m) w):=by
 have hm':m<18446744073709551616:=hm
 obtain ⟨R,hR⟩:∃ X,uv m=X:=⟨_,rfl⟩
 have hl:R.length≤1000:=by rw [←hR];exact Nat.le_trans (Z1g hm) (by omega)
 have HR:=hid hR
 rw [hR]
 clear hR hm
 go_enter Tryz.func352,Tryz.ntmps352
 go_wp2_with (go_at_call 321;refine Hid.out ?_)
 refine hid ?_
 refine (Z5Z none 0 0 [] w rfl Rd.nil (by omega)).mono ?_
 rintro e w0 ⟨A0,c0,rfl,ho0,y0⟩
 go_wp2_with (fail)
 go_loopg [0,1] m (fun g bv nv wr => ∃ (y:Nat) (pre:List Int) (v:Value) (w1:World),y≤m∧g=y∧nv=.int .u64 (y:Int)∧v=bv∧w1=wr∧Hid (R=pre++uv y)∧OwU8 w1 w.heap.size v pre∧Below w.heap.size w w1)
 case atStart=>exact ⟨m,[],_,_,Nat.le_refl _,rfl,rfl,rfl,rfl,hid (by rw [HR.out];rfl),ho0,y0⟩
 case round=>
  obtain ⟨y,pre,v,w1,hy,hg,rfl,rfl,rfl,HS,hown,hx⟩:=hrel
  have HG:=hid hg
  clear hg
  have hpl:pre.length+(uv y).length≤1000:=by rw [←List.length_append,←HS.out];exact hl
  by_cases h128:y<128
  ·have HE:Hid (R=pre++[(y:Int)]):=hid (by rw [HS.out,Z2p h128])
   have hy8:IntKind.u8.wrap (y:Int)=(y:Int):=IntWalk.u8_in _ (by omega)
   have g1:¬ ((127:Int)<(y:Int)):=by omega
   go_wp2_with (at_builtin;refine Z3l (m:=[(y:Int)]) rfl (.tmp 17) (.tmp 20) rfl rfl (hown.alloc _) _ _ _ _ rfl rfl (Rd.new (enc:=Z2B) (size:=1) (fun _=>rfl) w1 5 [(y:Int)] (cs:=#[.int .u8 (y:Int)]) rfl rfl) (by simp only [List.length_cons,List.length_nil];omega) (by have:=hx.size;rw [World.size_alloc];omega) ?_;intro v' w' hown' hgr hv')
   have hx2:Below w.heap.size w w':=(hx.alloc hx.size _).grown hgr (by have:=hx.size;rw [World.size_alloc];omega) (fun k hk=>(hown.wb_lt k hk).1)
   go_ret
   rw [HE.out]
   obtain ⟨A',c',rfl,_,_⟩:=hown'.form
   exact ⟨A',c',rfl,hown',hx2⟩
  ·have HE:Hid (R=pre++[((y % 128+128:Nat):Int)]++uv (y / 128)):=hid (by rw [HS.out,Z2Z h128,List.append_assoc];rfl)
   have g1:(127:Int)<(y:Int):=by omega
   have hor:=Y8g (y:=y)
   go_wp2_with (at_builtin;refine Z3l (m:=[((y % 128+128:Nat):Int)]) rfl (.tmp 11) (.tmp 15) rfl rfl (hown.alloc _) _ _ _ _ rfl rfl (Rd.new (enc:=Z2B) (size:=1) (fun _=>rfl) w1 5 [((y % 128+128:Nat):Int)] (cs:=#[.int .u8 ((y % 128+128:Nat):Int)]) rfl rfl) (by simp only [List.length_cons,List.length_nil];omega) (by have:=hx.size;rw [World.size_alloc];omega) ?_;intro v' w' hown' hgr hv')
   have hx2:Below w.heap.size w w':=(hx.alloc hx.size _).grown hgr (by have:=hx.size;rw [World.size_alloc];omega) (fun k hk=>(hown.wb_lt k hk).1)
   go_wp2_with (fail)
   go_roundg (y / 128)
   case measure=>have:=HG.out;omega
   case rel=>exact ⟨y / 128,pre++[((y % 128+128:Nat):Int)],_,_,by omega,rfl,by go_num,rfl,rfl,HE,hown',hx2⟩
theorem Z6Y (n:Int) (w:World) (h0 : -9223372036854775808≤n) (h1:n≤9223372036854775807):Calls Tryz.prog 324 #[.slice none 0 0,.int .i64 n] w (Y66 (uv (zigP n)) w):=by
 obtain ⟨z,hz⟩:∃ X,zigP n=X:=⟨_,rfl⟩
 have hl:z<2 ^ 64:=by rw [←hz];exact Z8c h0 h1
 have HZ:=hid hz
 rw [hz]
 clear hz
 have HL:=hid hl
 clear hl
 go_enter Tryz.func324,Tryz.ntmps324
 go_wp2_with (go_at_call 353;refine Hid.out ?_)
 refine hid ?_
 refine (Y65 n w h0 h1).mono ?_
 rintro e w1 ⟨rfl,rfl⟩
 rw [HZ.out]
 go_wp2_with (go_at_call 352;refine Hid.out ?_)
 refine hid ?_
 refine (Z9I z _ HL.out).mono ?_
 rintro e w2 ⟨A,c,rfl,ho,y⟩
 go_wp2_with (fail)
 go_ret
 exact ⟨A,c,rfl,ho,y⟩
structure Grow (w:World) (F:Nat→Prop) (w':World) (F':Nat→Prop):Prop where
 os:w'.os=w.os
 tape:w'.tape=w.tape
 output:w'.output=w.output
 size:w.heap.size≤w'.heap.size
 block:∀ j,j<w.heap.size→¬ F j→w'.heap[j]? = w.heap[j]?
 foot:∀ k,F' k→F k∨w.heap.size≤k
theorem Grow.refl (w:World) (F:Nat→Prop):Grow w F w F:=⟨rfl,rfl,rfl,Nat.le_refl _,fun _ _ _=>rfl,fun _ h=>.inl h⟩
theorem Grow.trans {a b c:World} {F G H:Nat→Prop} (h:Grow a F b G) (h':Grow b G c H):Grow a F c H:=
 ⟨h'.os.trans h.os,h'.tape.trans h.tape,h'.output.trans h.output,Nat.le_trans h.size h'.size,
  fun j hj hn=>(h'.block j (Nat.lt_of_lt_of_le hj h.size) (fun hg=>by rcases h.foot j hg with h1|h1;exact hn h1;omega)).trans (h.block j hj hn),
  fun k hk=>by
   rcases h'.foot k hk with h1|h1
   ·exact h.foot k h1
   ·have:=h.size;exact .inr (by omega)⟩
theorem Grow.of {w w':World} {F:Nat→Prop} (y:Below w.heap.size w w'):Grow w F w' F:=⟨y.os,y.tape,y.output,y.size,fun j hj _=>y.block j hj,fun _ h=>.inl h⟩
theorem Grow.below {w w':World} {F G:Nat→Prop} {B:Nat} (h:Grow w F w' G) (hF:∀ k,F k→B≤k) (hB:B≤w.heap.size):Below B w w':=
 ⟨h.os,h.tape,h.output,h.size,fun j hj=>h.block j (by omega) (fun hf=>by have:=hF j hf;omega)⟩
theorem Grow.out {w w':World} {F G:Nat→Prop} (h:Grow w F w' G) {k:Nat} (hk:k<w.heap.size) (hn:¬ F k):¬ G k:=fun hg=>by
 rcases h.foot k hg with h1|h1
 ·exact hn h1
 ·omega
def OffF (F:Nat→Prop) (A:Option Addr) (n:Nat):Prop := ∀ ad,A=some ad→0<n→¬ F ad.block
section
variable {α:Type} {enc:α→List Value} {size:Nat} {e:TypeId} {w w':World} {F G:Nat→Prop} {A:Option Addr} {l:List α} {v:Value} {base:Nat}
theorem Rd.grow (h:Rd enc size w w.heap.size A l) (g:Grow w F w' G) (hn:OffF F A l.length):Rd enc size w' w'.heap.size A l:=fun hl=>by
 obtain ⟨ad,e,hb,hc⟩:=h hl
 have hne:=hn ad e hl
 exact ⟨ad,e,Nat.lt_of_lt_of_le hb g.size,fun i hi=>(hc i hi).keep fun q hq=>by
  have hqb:q.block=ad.block:=by rw [hq,Z0R]
  simp only [World.cell?]
  rw [hqb,g.block ad.block hb hne]⟩
theorem OffF.grow (h:OffF F A l.length) (hr:Rd enc size w w.heap.size A l) (g:Grow w F w' G):OffF G A l.length:=fun ad e hl=>by
 obtain ⟨ad',e',hb,_⟩:=hr hl
 rw [e] at e';injection e' with e';subst e'
 exact g.out hb (h ad e hl)
theorem OffF.zero:OffF F A 0:=fun _ _ h=>absurd h (Nat.lt_irrefl _)
theorem Y47 {B:Nat} {n:Nat} (hF:∀ k,F k→B≤k) (h:∀ ad,A=some ad→0<n→ad.block<B):OffF F A n:=fun ad e hl hk=>by
 have:=hF _ hk;have:=h ad e hl;omega
theorem Rd.offF {B:Nat} (h:Rd enc size w B A l) (hF:∀ k,F k→B≤k):OffF F A l.length:=Y47 hF fun ad e hl=>by
 obtain ⟨ad',e',hb,_⟩:=h hl
 rw [e] at e';injection e' with e';subst e';exact hb
theorem Ow.offF {n c:Nat} (hs:∀ a,(enc a).length=size) (h:Ow enc size e w base (.slice A n c) l) (hn:n=l.length) (hF:∀ k,wb (.slice A n c)=some k→¬ F k):OffF F A n:=fun ad ea hl hk=>by
 subst ea
 have hc:=h.form
 obtain ⟨A',c',hv,h1,_⟩:=hc
 injection hv with _ _ hcc
 subst hcc
 cases c with
 | zero=>omega
 | succ c=>exact hF _ rfl hk
end
theorem Z0d {w:World} {b j:Nat} {cs:Array Value} {t:TypeId} (h:w.heap[b]? = some (.cells cs t (0,0))) (u:Value):(w.setCell ⟨b,j,none⟩ u).heap[b]? = some (.cells (cs.setIfInBounds j u) t (0,0)):=by
 have hb:=Z0p h
 have he:w.heap[b]=.cells cs t (0,0):=by
  have:=h
  rw [Array.getElem?_eq_getElem hb] at this
  injection this
 unfold World.setCell
 rw [Array.getElem?_eq_getElem (by simpa using hb),Array.getElem_modify]
 simp [he]
open Go.RowKit
set_option linter.unusedVariables false
set_option linter.unusedSimpArgs false
theorem Z3J (w:World):Below w.heap.size w w.drew:=⟨rfl,rfl,rfl,Nat.le_refl _,fun _ _=>rfl⟩
structure RS (w:World) (pr:Nat) (A:Option Addr) (n c:Nat) (b:List Int) (k:Nat) (bad:Bool):Prop where
 box:w.heap[pr]? = some (.cells #[.slice A n c,.int .i64 (k:Int),.bool bad] 135 (0,0))
 rd:RdU8 w pr A b
 len:n=b.length
 cap:n≤c
 u8:U8 b
 small:n≤100000000
 le:k≤n
abbrev GR (pr:Nat) (w w':World):Prop:=Grow w (fun k=>k=pr) w' (fun k=>k=pr)
theorem RS.below {w w':World} {pr:Nat} {A:Option Addr} {n c:Nat} {b:List Int} {k:Nat} {bad:Bool} (h:RS w pr A n c b k bad) (y:Below w.heap.size w w'):RS w' pr A n c b k bad:=
 ⟨(y.block pr (Z0p h.box)).trans h.box,h.rd.below y (Nat.le_of_lt (Z0p h.box)),h.len,h.cap,h.u8,h.small,h.le⟩
theorem RS.cells {w:World} {pr:Nat} {A:Option Addr} {n c:Nat} {b:List Int} {k:Nat} {bad:Bool} (h:RS w pr A n c b k bad) :
 w.cell? ⟨pr,0,none⟩=some (.slice A n c)∧w.cell? ⟨pr,1,none⟩=some (.int .i64 (k:Int))∧w.cell? ⟨pr,2,none⟩=some (.bool bad):=by
 simp [World.cell?,h.box]
theorem RS.thaw {w:World} {pr:Nat} {A:Option Addr} {n c:Nat} {b:List Int} {k:Nat} {bad:Bool} (h:RS w pr A n c b k bad) (j:Nat):w.frozen? ⟨pr,j,none⟩=false:=by
 simp [World.frozen?,h.box]
theorem Y6y {w:World} {pr j:Nat} {A:Option Addr} {b:List Int} {u:Value} (h:RdU8 w pr A b):RdU8 (w.setCell ⟨pr,j,none⟩ u) pr A b:=
 h.keep fun p hp=>by simp only [World.cell?];rw [Below.heap_setCell w ⟨pr,j,none⟩ u p.block (fun e=>by simp only at e;omega)]
theorem RS.setAt {w:World} {pr:Nat} {A:Option Addr} {n c:Nat} {b:List Int} {k:Nat} {bad:Bool} (h:RS w pr A n c b k bad) {k':Nat} (hk:k'≤n):RS (w.setCell ⟨pr,1,none⟩ (.int .i64 (k':Int))) pr A n c b k' bad:=
 ⟨by rw [Z0d h.box];rfl,Y6y h.rd,h.len,h.cap,h.u8,h.small,hk⟩
theorem RS.setBad {w:World} {pr:Nat} {A:Option Addr} {n c:Nat} {b:List Int} {k:Nat} {bad:Bool} (h:RS w pr A n c b k bad):RS (w.setCell ⟨pr,2,none⟩ (.bool true)) pr A n c b k true:=
 ⟨by rw [Z0d h.box];rfl,Y6y h.rd,h.len,h.cap,h.u8,h.small,h.le⟩
theorem GR.set (w:World) (pr j:Nat) (u:Value):GR pr w (w.setCell ⟨pr,j,none⟩ u):=
 ⟨rfl,rfl,rfl,by simp [World.setCell],fun k _ hk=>Below.heap_setCell w ⟨pr,j,none⟩ u k (fun e=>hk e),fun k h=>.inl h⟩
def Took {α:Type} (P:PF α) (b:List Int) (k:Nat) (bad:Bool) (a:α) (k':Nat) (bad':Bool):Prop:=
 if bad=true then bad'=true else match P (b.drop k) with
  | some (a0,r)=>a0=a∧bad'=false∧b.drop k'=r
  | none=>bad'=true
theorem Z2b {α:Type} {P:PF α} {b:List Int} {k k':Nat} {a:α} {bad:Bool} (h:P (b.drop k)=none):Took P b k bad a k' true:=by
 unfold Took
 split
 ·rfl
 ·rw [h]
theorem Z1R {α:Type} {P:PF α} {b r:List Int} {k k':Nat} {a:α} {bad:Bool} (h:P (b.drop k)=some (a,r)) (hr:b.drop k'=r):Took P b k bad a k' bad:=by
 unfold Took
 split
 ·assumption
 ·rename_i hb
  rw [h]
  exact ⟨rfl,by simpa using hb,hr⟩
theorem Took.bind {α β:Type} {P:PF α} {Q:α→PF β} {b:List Int} {k k1 k2:Nat} {a:α} {c:β} {bad bad1 bad2:Bool} (h1:Took P b k bad a k1 bad1) (h2:Took (Q a) b k1 bad1 c k2 bad2):Took (fun x=>(P x).bind fun z=>Q z.1 z.2) b k bad c k2 bad2:=by
 unfold Took at h1 h2 ⊢
 cases bad with
 | true=>
   simp only [if_true] at h1 ⊢
   subst h1
   simpa using h2
 | false=>
   simp only [Bool.false_eq_true,if_false] at h1 ⊢
   cases hp:P (b.drop k) with
   | none=>
     rw [hp] at h1
     simp only at h1
     subst h1
     simpa using h2
   | some z=>
     obtain ⟨a0,r⟩:=z
     rw [hp] at h1
     obtain ⟨rfl,rfl,rfl⟩:=h1
     simpa using h2
theorem Took.map {α β:Type} {P:PF α} {f:α→β} {b:List Int} {k k1:Nat} {a:α} {bad bad1:Bool} (h1:Took P b k bad a k1 bad1):Took (fun x=>(P x).map fun z=>(f z.1,z.2)) b k bad (f a) k1 bad1:=by
 unfold Took at h1 ⊢
 cases bad with
 | true=>simpa using h1
 | false=>
   simp only [Bool.false_eq_true,if_false] at h1 ⊢
   cases hp:P (b.drop k) with
   | none=>rw [hp] at h1;simpa using h1
   | some z=>
     obtain ⟨a0,r⟩:=z
     rw [hp] at h1
     obtain ⟨rfl,h2,h3⟩:=h1
     exact ⟨rfl,h2,h3⟩
theorem Took.of_eq {α:Type} {P Q:PF α} {b:List Int} {k k':Nat} {a:α} {bad bad':Bool} (h:Took P b k bad a k' bad') (e:∀ x,P x=Q x):Took Q b k bad a k' bad':=by
 unfold Took at h ⊢
 rw [←e]
 exact h
def OutR {α:Type} (P:PF α) (Ok:α→Value→World→Prop) (w:World) (pr:Nat) (A:Option Addr) (n c:Nat) (b:List Int) (k:Nat) (bad:Bool) (e:Ending) (w':World):Prop:=
 ∃ (a:α) (v:Value) (k':Nat) (bad':Bool),e=.returned v∧Ok a v w'∧RS w' pr A n c b k' bad'∧GR pr w w'∧Took P b k bad a k' bad'
def OkU (most:Nat) (a:Nat) (v:Value) (_:World):Prop:=v=.int .u64 (a:Int)∧a≤most
theorem Z12 (pr most:Nat) (A:Option Addr) (n c:Nat) (b:List Int) (k:Nat) (bad:Bool) (w:World) (hm:most<2 ^ 64) (h:RS w pr A n c b k bad) :
 Calls Tryz.prog 161 #[.pointer (some ⟨pr,0,none⟩),.int .u64 (most:Int)] w (OutR (pU most) (OkU most) w pr A n c b k bad):=by
 have H:=hid h
 have HRd:Hid (RdU8 w w.heap.size A b):=hid (h.rd.more (Nat.le_of_lt (Z0p h.box)))
 have hU:Hid (∀ m:Nat,Calls Tryz.prog 248 #[.slice A n c,.int .i64 (k:Int)] (w.drewN m) fun e w'=>e=.returned (Z4H n (rdU 0 (b.drop k)))∧w'=w.drewN m):=
  hid (fun m=>Z7C A n c k b (w.drewN m) h.len h.cap (HRd.out.ext (Z0m w m)) h.u8 (by have:=h.small;omega) h.le)
 obtain ⟨r0,r1,r2⟩:=h.cells
 have f1:=h.thaw 1
 have f2:=h.thaw 2
 have hsm:=h.small
 have HPU:Hid (pU most (b.drop k)=(rdU 0 (b.drop k)).bind fun z=>if z.1≤most then some z else none):=hid rfl
 have hm':most<18446744073709551616:=hm
 cases ho:rdU 0 (b.drop k) with
 | none=>
   have HN:Hid (pU most (b.drop k)=none):=hid (by rw [HPU.out,ho];rfl)
   rw [ho] at hU
   unfold Z4H at hU
   simp only at hU
   clear h ho
   go_enter Tryz.func161,Tryz.ntmps161
   go_wp2_with (fail)
   go_quiet ((go_at_call 248;exact Calls.quiet_of_same (hU.out _)))
   go_wp2_with (fail)
   go_ret
   exact ⟨0,_,k,true,rfl,⟨rfl,Nat.zero_le _⟩,(H.out.below (Z0m w nq)).setBad,(Grow.of (Z0m w nq)).trans (GR.set _ _ _ _),Z2b HN.out⟩
 | some z=>
   obtain ⟨v,r⟩:=z
   obtain ⟨e1,e2⟩:=Z20 (fun x hx=>h.u8 x (List.mem_of_mem_drop hx)) ho
   have hrl:(uv v).length+r.length=n-k:=by rw [←List.length_append,←e1,List.length_drop,h.len]
   obtain ⟨q,hq⟩:∃ X,n-r.length=X:=⟨_,rfl⟩
   have hv:v<18446744073709551616:=e2
   have HR2:Hid (b.drop q=r):=hid (by
    have h1:b.drop (k+(uv v).length)=r:=by rw [←List.drop_drop,e1,List.drop_left]
    rw [←h1]
    congr 1
    have:=h.le
    omega)
   have hqn:q≤n:=by omega
   rw [ho] at hU
   unfold Z4H at hU
   simp only at hU
   rw [hq] at hU
   have HPV:Hid (pU most (b.drop k)=if v≤most then some (v,r) else none):=hid (by rw [HPU.out,ho];rfl)
   clear h ho e1 e2 hrl hq
   by_cases t1:v≤most
   ·have HS:Hid (pU most (b.drop k)=some (v,r)):=hid (by rw [HPV.out,if_pos t1])
    have g1:¬ ((most:Int)<(v:Int)):=by omega
    go_enter Tryz.func161,Tryz.ntmps161
    go_wp2_with (fail)
    go_quiet ((go_at_call 248;exact Calls.quiet_of_same (hU.out _)))
    go_wp2_with (fail)
    go_ret
    exact ⟨v,_,q,bad,rfl,⟨rfl,t1⟩,(H.out.below (Z0m w nq)).setAt hqn,(Grow.of (Z0m w nq)).trans (GR.set _ _ _ _),Z1R HS.out HR2.out⟩
   ·have HS:Hid (pU most (b.drop k)=none):=hid (by rw [HPV.out,if_neg t1])
    have g1:(most:Int)<(v:Int):=by omega
    go_enter Tryz.func161,Tryz.ntmps161
    go_wp2_with (fail)
    go_quiet ((go_at_call 248;exact Calls.quiet_of_same (hU.out _)))
    go_wp2_with (fail)
    go_ret
    exact ⟨0,_,k,true,rfl,⟨rfl,Nat.zero_le _⟩,(H.out.below (Z0m w nq)).setBad,(Grow.of (Z0m w nq)).trans (GR.set _ _ _ _),Z2b HS.out⟩
def OkI (most:Nat) (a:Nat) (v:Value) (_:World):Prop:=v=.int .i64 (a:Int)∧a≤most
theorem Y0O (pr:Nat) (A:Option Addr) (n c:Nat) (b:List Int) (k:Nat) (bad:Bool) (w:World) (h:RS w pr A n c b k bad) :
 Calls Tryz.prog 162 #[.pointer (some ⟨pr,0,none⟩)] w (OutR (pU 536870912) (OkI 536870912) w pr A n c b k bad):=by
 go_enter Tryz.func162,Tryz.ntmps162
 go_wp2_with (go_at_call 161;refine Hid.out ?_)
 refine hid ?_
 refine (Z12 pr 536870912 A n c b k bad w (by omega) h).mono ?_
 rintro e w2 ⟨a,v,k',bad',rfl,⟨rfl,ha⟩,hs,hg,ht⟩
 have HT:=hid ht
 have HS:=hid hs
 have HG:=hid hg
 clear ht hs hg
 have hwa:IntKind.i64.wrap (a:Int)=(a:Int):=IntWalk.i64_in _ (by omega)
 go_wp2_with (fail)
 go_ret
 exact ⟨a,_,k',bad',rfl,⟨rfl,ha⟩,HS.out,HG.out,HT.out⟩
theorem Y0P (pr:Nat) (A:Option Addr) (n c:Nat) (b:List Int) (k:Nat) (bad:Bool) (w:World) (h:RS w pr A n c b k bad) :
 Calls Tryz.prog 249 #[.pointer (some ⟨pr,0,none⟩)] w (OutR (pU 9223372036854775807) (OkI 9223372036854775807) w pr A n c b k bad):=by
 go_enter Tryz.func249,Tryz.ntmps249
 go_wp2_with (go_at_call 161;refine Hid.out ?_)
 refine hid ?_
 refine (Z12 pr 9223372036854775807 A n c b k bad w (by omega) h).mono ?_
 rintro e w2 ⟨a,v,k',bad',rfl,⟨rfl,ha⟩,hs,hg,ht⟩
 have HT:=hid ht
 have HS:=hid hs
 have HG:=hid hg
 clear ht hs hg
 have hwa:IntKind.i64.wrap (a:Int)=(a:Int):=IntWalk.i64_in _ (by omega)
 go_wp2_with (fail)
 go_ret
 exact ⟨a,_,k',bad',rfl,⟨rfl,ha⟩,HS.out,HG.out,HT.out⟩
def OkB (x:List Int) (v:Value) (w:World):Prop := ∃ A c,v=.slice A x.length c∧x.length≤c∧RdU8 w w.heap.size A x∧U8 x∧x.length≤100000000
theorem Z6Z (pr:Nat) (A:Option Addr) (n c:Nat) (b:List Int) (k:Nat) (bad:Bool) (w:World) (h:RS w pr A n c b k bad) :
 Calls Tryz.prog 165 #[.pointer (some ⟨pr,0,none⟩)] w (OutR (pB n) OkB w pr A n c b k bad):=by
 have H:=hid h
 have HRd:Hid (RdU8 w w.heap.size A b):=hid (h.rd.more (Nat.le_of_lt (Z0p h.box)))
 have HB:Hid (∀ w1:World,Below w.heap.size w w1→Calls Tryz.prog 251 #[.slice A n c,.int .i64 (k:Int),.int .i64 (n:Int)] w1 fun e w'=>Y0N n w1 e w' (pB n (b.drop k))):=
  hid (fun w1 y=>Y1I A n c k n b w1 h.len h.cap (HRd.out.ext y) h.u8 (by have:=h.small;omega) h.le (by have:=h.small;omega))
 obtain ⟨r0,r1,r2⟩:=h.cells
 have hsm:=h.small
 cases ho:pB n (b.drop k) with
 | none=>
   have HN:=hid ho
   rw [ho] at HB
   unfold Y0N at HB
   simp only at HB
   clear h ho
   go_enter Tryz.func165,Tryz.ntmps165
   go_wp2_with (fail)
   go_region_held3 (fun w'=>w'.cell? ⟨pr,0,none⟩=some (.slice A n c)∧w'.cell? ⟨pr,1,none⟩=some (.int .i64 (k:Int))) (go_keep) (first
    | (go_at_call 251
       with_reducible refine (HB.out _ (Z3J w)).mono ?_
       rintro e w2 ⟨rfl,y2⟩
       have Y2:Hid (Below w.heap.size w w2):=hid (Z0a (Z3J w) y2)
       obtain ⟨q0,q1,q2⟩:=(H.out.below Y2.out).cells
       have g1:=(H.out.below Y2.out).thaw 1
       have g2:=(H.out.below Y2.out).thaw 2
       clear y2))
   go_wp2_with (fail)
   go_ret
   exact ⟨[],_,k,true,rfl,⟨none,0,rfl,Nat.le_refl _,Rd.nil,(fun x hx=>by cases hx),Nat.zero_le _⟩,(H.out.below Y2.out).setBad,(Grow.of Y2.out).trans (GR.set _ _ _ _),Z2b HN.out⟩
 | some z=>
   obtain ⟨x,r⟩:=z
   obtain ⟨e1,e2,e3,e4⟩:=Y0K (fun x hx=>h.u8 x (List.mem_of_mem_drop hx)) ho
   have HN:=hid ho
   obtain ⟨q,hq⟩:∃ X,n-r.length=X:=⟨_,rfl⟩
   have hrl:(wB x).length+r.length=n-k:=by rw [←List.length_append,←e1,List.length_drop,h.len]
   have HR2:Hid (b.drop q=r):=hid (by
    have h1:b.drop (k+(wB x).length)=r:=by rw [←List.drop_drop,e1,List.drop_left]
    rw [←h1]
    congr 1
    have:=h.le
    omega)
   have hqn:q≤n:=by omega
   have HX2:=hid e2
   have HX3:Hid (x.length≤100000000):=hid (by omega)
   obtain ⟨xl,hxl⟩:∃ X,x.length=X:=⟨_,rfl⟩
   have HXL:=hid hxl
   rw [ho] at HB
   unfold Y0N at HB
   simp only at HB
   rw [hq,hxl] at HB
   clear h ho e1 e2 e3 e4 hq hrl hxl
   go_enter Tryz.func165,Tryz.ntmps165
   go_wp2_with (fail)
   go_region_held3 (fun w'=>w'.cell? ⟨pr,0,none⟩=some (.slice A n c)∧w'.cell? ⟨pr,1,none⟩=some (.int .i64 (k:Int))) (go_keep) (first
    | (go_at_call 251
       with_reducible refine (HB.out _ (Z3J w)).mono ?_
       rintro e w2 ⟨A2,c2,rfl,o2,y2⟩
       have Y2:Hid (Below w.heap.size w w2):=hid (Z0a (Z3J w) y2)
       obtain ⟨q0,q1,q2⟩:=(H.out.below Y2.out).cells
       have g1:=(H.out.below Y2.out).thaw 1
       have g2:=(H.out.below Y2.out).thaw 2
       have O2:=hid o2
       clear o2
       clear y2))
   go_wp2_with (fail)
   go_ret
   have ho2:OwU8 w2 w.drew.heap.size (.slice A2 x.length c2) x:=by rw [HXL.out];exact O2.out
   refine ⟨x,_,q,bad,rfl,⟨A2,c2,by rw [HXL.out];rfl,?_,?_,HX2.out,HX3.out⟩,(H.out.below Y2.out).setAt hqn,(Grow.of Y2.out).trans (GR.set _ _ _ _),Z1R HN.out HR2.out⟩
   ·obtain ⟨_,_,hv,h1,_⟩:=ho2.form
    injection hv with _ _ hc
    subst hc
    exact h1
   ·exact (ho2.setCell (p:=⟨pr,1,none⟩) (fun e=>by
     have h1:=(ho2.wb_lt _ e).1
     have h2:=Z0p H.out.box
     simp at h1
     omega) _).rd Z1Q
end Go.Proofs.YtnmedachaeanbaaGreatDoor
