/- Merged texts. -/
import Derived.Lib.OthersKept
import Derived.Laws.BytesString
import Derived.Laws.BytesArg
import Derived.Test.YtnmedachaeanbaaGreatDoorB4
import Derived.Lib.ConvBytes
import Derived.Deep.RegionHeld3
namespace Go.Proofs.YtnmedachaeanbaaGreatDoor
set_option maxHeartbeats 1600000
open Go.RowKit
open Go.Lib (hid Utf8Tabs)
set_option linter.unusedVariables false
set_option linter.unusedSimpArgs false
def intB (t:List UInt8):List Int:=t.map fun u=>(u.toNat:Int)
theorem Z1v (t:List UInt8):(intB t).length=t.length:=by simp [intB]
theorem Z3I (t:List UInt8):∀ x∈intB t,0≤x∧x≤255:=by
 intro x hx
 obtain ⟨u,_,rfl⟩:=List.mem_map.1 hx
 have:=u.toNat_lt
 omega
theorem Y2U {b:List Int} (hu:∀ x∈b,0≤x∧x≤255):∃ t,b=intB t:=by
 refine ⟨b.map fun x=>UInt8.ofNat x.toNat,?_⟩
 unfold intB
 rw [List.map_map]
 symm
 rw [List.map_congr_left (g:=id),List.map_id]
 intro x hx
 have:=hu x hx
 show ((UInt8.ofNat x.toNat).toNat:Int)=x
 rw [UInt8.toNat_ofNat']
 omega
theorem Z7x {w:World} {B:Nat} {A:Option Addr} {t:List UInt8}:RdU8 w B A (intB t)↔RdB w B A t:=by
 constructor
 ·intro h hl
  obtain ⟨ad,e,hb,hc⟩:=h (by rw [Z1v];exact hl)
  refine ⟨ad,e,hb,fun i hi=>?_⟩
  have:=hc i (by rw [Z1v];exact hi)
  simpa [intB,Z2B,encB] using this
 ·intro h hl
  rw [Z1v] at hl
  obtain ⟨ad,e,hb,hc⟩:=h hl
  refine ⟨ad,e,hb,fun i hi=>?_⟩
  have:=hc i (by rw [Z1v] at hi;exact hi)
  simpa [intB,Z2B,encB] using this
theorem Tryz.strT:Tryz.prog.underlying 9=some .string:=by kernel_rfl
theorem Tryz.uU8:Tryz.prog.underlying 5=some (.int .u8):=by kernel_rfl
theorem Y0E {w:World} {B:Nat} {A:Option Addr} {t:List UInt8} {n c:Nat} (hn:n=t.length) (h:RdB w B A t) :
 (convert 55 9 (.slice A n c)).run Tryz.prog w=.ok (.string ⟨t.toArray⟩) w:=by
 subst hn
 rw [run_convert_bytes_string w _ _ _ A t.length c Tryz.slU8 Tryz.uU8 Tryz.strT]
 cases A with
 | none=>
   rcases Nat.eq_zero_or_pos t.length with h0|h0
   ·obtain rfl:=List.eq_nil_of_length_eq_zero h0
    simp [Conv.bytesToString]
    rfl
   ·obtain ⟨ad,e,_⟩:=h h0
    cases e
 | some ad=>
   have hl:(loadCells ad t.length).run Tryz.prog w=.ok ((intB t).map (Value.int .u8)).toArray w:=by
    have:=run_loadCells_list (P:=Tryz.prog) w ad ((intB t).map (Value.int .u8)) (fun j v hj=>by
     have hj2:∃ hlt:j<t.length,v=.int .u8 (t[j].toNat:Int):=by
      obtain ⟨hlt,he⟩:=List.getElem?_eq_some_iff.1 hj
      simp [intB] at hlt
      exact ⟨hlt,by rw [←he];simp [intB]⟩
     obtain ⟨hlt,rfl⟩:=hj2
     obtain ⟨ad',e,_,hc⟩:=h (by omega)
     injection e with e
     subst e
     have:=hc j hlt 0 _ rfl
     rwa [Z0n,Nat.mul_one] at this)
    simpa [Z1v] using this
   rw [run_bytesToString w _ _ c (intB t) hl,foldl_push_bytes]
   have hm:(intB t).map (fun n=>UInt8.ofNat n.toNat)=t:=by
    unfold intB
    rw [List.map_map,List.map_congr_left (g:=id),List.map_id]
    intro x _
    simp
   rw [hm]
   simp [ByteArray.empty,ByteArray.emptyWithCapacity]
   rfl
theorem Y1F (n b0 b1 b2 b3:Nat) (h0:b0<256) (h1:b1<256) (h2:b2<256) (h3:b3<256) :
 Lib.decodeN n b0 b1 b2 b3=(65533,1)∨(b0<128∧Lib.decodeN n b0 b1 b2 b3=(b0,1)) ∨
 (∃ r,128≤r∧r<2048∧1<n∧Lib.decodeN n b0 b1 b2 b3=(r,2)∧b0=192+r / 64∧b1=128+r % 64) ∨
 (∃ r,2048≤r∧r<65536∧(r<55296∨57344≤r)∧2<n∧Lib.decodeN n b0 b1 b2 b3=(r,3)∧b0=224+r / 4096∧b1=128+r / 64 % 64∧b2=128+r % 64) ∨
 (∃ r,65536≤r∧r≤1114111∧3<n∧Lib.decodeN n b0 b1 b2 b3=(r,4)∧b0=240+r / 262144∧b1=128+r / 4096 % 64∧b2=128+r / 64 % 64∧b3=128+r % 64):=by
 unfold Lib.decodeN
 split
 ·rename_i c;exact .inr (.inl ⟨c,rfl⟩)
 ·split
  ·rename_i c1 c2
   split
   ·rename_i c3
    exact .inr (.inr (.inl ⟨_,by omega,by omega,by omega,rfl,by omega,by omega⟩))
   ·exact .inl rfl
  ·split
   ·rename_i c1 c2 c3
    split
    ·rename_i c4
     exact .inr (.inr (.inr (.inl ⟨_,by omega,by omega,by omega,by omega,rfl,by omega,by omega,by omega⟩)))
    ·exact .inl rfl
   ·split
    ·rename_i c1 c2 c3 c4
     split
     ·rename_i c5
      exact .inr (.inr (.inr (.inr ⟨_,by omega,by omega,by omega,rfl,by omega,by omega,by omega,by omega⟩)))
     ·exact .inl rfl
    ·exact .inl rfl
theorem Z0E (u:UInt8) (t:List UInt8):intB (u::t)=(u.toNat:Int)::intB t:=rfl
theorem Y6W {t:List UInt8} (hne:t≠[]):Lib.decodeL t=(65533,1)∨∃ r:Nat,Lib.decodeL t=(r,(encR r).length)∧mayR r=true∧∃ rest,intB t=encR r++rest:=by
 rw [Lib.decodeL_N]
 have e:∀ i,(t.getD i 0).toNat<256:=fun i=>(t.getD i 0).toNat_lt
 have hl:0<t.length:=List.length_pos_iff.2 hne
 have g:∀ i,i<t.length→(t.getD i 0).toNat=(t[i]?.getD 0).toNat:=fun i _=>by simp [List.getD]
 rcases Y1F t.length _ _ _ _ (e 0) (e 1) (e 2) (e 3) with h | ⟨h1,h2⟩ | ⟨r,h1,h2,h3,h4,h5,h6⟩ | ⟨r,h1,h2,h3,h4,h5,h6,h7,h8⟩ | ⟨r,h1,h2,h3,h4,h5,h6,h7,h8⟩
 ·exact .inl h
 ·refine .inr ⟨(t.getD 0 0).toNat,?_,?_,?_⟩
  ·rw [h2,Z2G,if_pos (by omega)]
  ·exact decide_eq_true (by omega)
  ·match t,hl with
   | a::t',_=>
     refine ⟨intB t',?_⟩
     simp only [List.getD_cons_zero] at h1 ⊢
     rw [Y0z (by omega)]
     rfl
 ·refine .inr ⟨r,?_,?_,?_⟩
  ·rw [h4,Z2G,if_neg (by omega),if_pos (by omega)]
  ·exact decide_eq_true (by omega)
  ·match t,h3 with
   | a::b::t',_=>
     refine ⟨intB t',?_⟩
     simp only [List.getD_cons_zero,List.getD_cons_succ] at h5 h6
     rw [Y0A (by omega) (by omega),Z0E,Z0E]
     simp only [List.cons_append,List.nil_append,List.cons.injEq,and_true]
     omega
 ·refine .inr ⟨r,?_,?_,?_⟩
  ·rw [h5,Z2G,if_neg (by omega),if_neg (by omega),if_pos (by omega)]
  ·exact decide_eq_true (by omega)
  ·match t,h4 with
   | a::b::c::t',_=>
     refine ⟨intB t',?_⟩
     simp only [List.getD_cons_zero,List.getD_cons_succ] at h6 h7 h8
     rw [Y0B (by omega) (by omega),Z0E,Z0E,Z0E]
     simp only [List.cons_append,List.nil_append,List.cons.injEq,and_true]
     omega
 ·refine .inr ⟨r,?_,?_,?_⟩
  ·rw [h4,Z2G,if_neg (by omega),if_neg (by omega),if_neg (by omega)]
  ·exact decide_eq_true (by omega)
  ·match t,h3 with
   | a::b::c::d::t',_=>
     refine ⟨intB t',?_⟩
     simp only [List.getD_cons_zero,List.getD_cons_succ] at h5 h6 h7 h8
     rw [Y0C (by omega),Z0E,Z0E,Z0E,Z0E]
     simp only [List.cons_append,List.nil_append,List.cons.injEq,and_true]
     omega
theorem Y75 {r n b1 b2 b3:Nat} (h:r<128):Lib.decodeN n r b1 b2 b3=(r,1):=by unfold Lib.decodeN;rw [if_pos h]
theorem Y76 {r n b2 b3:Nat} (h:128≤r) (h2:r<2048) (hn:1<n):Lib.decodeN n (192+r / 64) (128+r % 64) b2 b3=(r,2):=by
 unfold Lib.decodeN
 rw [if_neg (by omega),if_pos ⟨by omega,hn,by omega⟩,if_pos (by omega)]
 congr 1;omega
theorem Y77 {r n b3:Nat} (h:2048≤r) (h2:r<65536) (hv:r<55296∨57344≤r) (hn:2<n):Lib.decodeN n (224+r / 4096) (128+r / 64 % 64) (128+r % 64) b3=(r,3):=by
 unfold Lib.decodeN
 rw [if_neg (by omega),if_neg (by omega),if_pos ⟨by omega,⟨by omega,by omega⟩,by omega,by omega⟩,if_pos (by omega)]
 congr 1;omega
theorem Y78 {r n:Nat} (h:65536≤r) (h2:r≤1114111) (hn:3<n):Lib.decodeN n (240+r / 262144) (128+r / 4096 % 64) (128+r / 64 % 64) (128+r % 64)=(r,4):=by
 unfold Lib.decodeN
 rw [if_neg (by omega),if_neg (by omega),if_neg (by omega),if_pos ⟨by omega,⟨by omega,by omega⟩,⟨by omega,by omega⟩,by omega,by omega⟩,if_pos (by omega)]
 congr 1;omega
theorem Y6X {t:List UInt8} {r:Int} {rest:List Int} (h:mayR r=true) (ht:intB t=encR r++rest):∃ m:Nat,r=m∧Lib.decodeL t=(m,(encR r).length):=by
 have hb:=Z2C h
 have hv:=of_decide_eq_true h
 obtain ⟨m,rfl⟩:∃ m:Nat,r=m:=⟨r.toNat,by omega⟩
 refine ⟨m,rfl,?_⟩
 have hlen:=congrArg List.length ht
 rw [Z1v,List.length_append] at hlen
 rw [Lib.decodeL_N,Z2G]
 rw [Z2G] at hlen
 by_cases h1:(m:Int)<128
 ·rw [if_pos h1] at hlen ⊢
  match t,hlen with
  | [],hl=>rw [List.length_nil] at hl;omega
  | a::t',_=>
    rw [Y0z h1,Z0E] at ht
    have e1:=(List.cons.inj ht).1
    simp only [List.getD_cons_zero]
    rw [show a.toNat=m by omega,Y75 (by omega)]
 ·rw [if_neg h1] at hlen ⊢
  by_cases h2:(m:Int)<2048
  ·rw [if_pos h2] at hlen ⊢
   match t,hlen with
   | [],hl=>simp only [List.length_cons,List.length_nil] at hl;omega
   | [a],hl=>simp only [List.length_cons,List.length_nil] at hl;omega
   | a::b::t',_=>
     rw [Y0A h1 h2,Z0E,Z0E] at ht
     have e1:=(List.cons.inj ht).1
     have e2:=(List.cons.inj (List.cons.inj ht).2).1
     simp only [List.getD_cons_zero,List.getD_cons_succ]
     rw [show a.toNat=192+m / 64 by omega,show b.toNat=128+m % 64 by omega,Y76 (by omega) (by omega) (by simp)]
  ·rw [if_neg h2] at hlen ⊢
   by_cases h3:(m:Int)<65536
   ·rw [if_pos h3] at hlen ⊢
    match t,hlen with
    | [],hl=>simp only [List.length_cons,List.length_nil] at hl;omega
    | [a],hl=>simp only [List.length_cons,List.length_nil] at hl;omega
    | [a,b],hl=>simp only [List.length_cons,List.length_nil] at hl;omega
    | a::b::c::t',_=>
      rw [Y0B h2 h3,Z0E,Z0E,Z0E] at ht
      have e1:=(List.cons.inj ht).1
      have e2:=(List.cons.inj (List.cons.inj ht).2).1
      have e3:=(List.cons.inj (List.cons.inj (List.cons.inj ht).2).2).1
      simp only [List.getD_cons_zero,List.getD_cons_succ]
      rw [show a.toNat=224+m / 4096 by omega,show b.toNat=128+m / 64 % 64 by omega,show c.toNat=128+m % 64 by omega,Y77 (by omega) (by omega) (by omega) (by simp)]
   ·rw [if_neg h3] at hlen ⊢
    match t,hlen with
    | [],hl=>simp only [List.length_cons,List.length_nil] at hl;omega
    | [a],hl=>simp only [List.length_cons,List.length_nil] at hl;omega
    | [a,b],hl=>simp only [List.length_cons,List.length_nil] at hl;omega
    | [a,b,c],hl=>simp only [List.length_cons,List.length_nil] at hl;omega
    | a::b::c::d::t',_=>
      rw [Y0C h3,Z0E,Z0E,Z0E,Z0E] at ht
      have e1:=(List.cons.inj ht).1
      have e2:=(List.cons.inj (List.cons.inj ht).2).1
      have e3:=(List.cons.inj (List.cons.inj (List.cons.inj ht).2).2).1
      have e4:=(List.cons.inj (List.cons.inj (List.cons.inj (List.cons.inj ht).2).2).2).1
      simp only [List.getD_cons_zero,List.getD_cons_succ]
      rw [show a.toNat=240+m / 262144 by omega,show b.toNat=128+m / 4096 % 64 by omega,show c.toNat=128+m / 64 % 64 by omega,show d.toNat=128+m % 64 by omega,Y78 (by omega) (by omega) (by simp)]
theorem Z4d {n:Nat} {r:Int} {b:List Int} (hn:0<n) (h:(Z1D n r b).2=0):Z1D n r b=(0,0):=by
 unfold Z1D at h ⊢
 split
 ·rfl
 ·rename_i hl
  rw [if_neg hl] at h
  split at h
  ·rfl
  ·rename_i r' hc
   split at h
   ·exact absurd h (by simp only;omega)
   ·rename_i hh;exact if_neg hh
theorem Y2V {b:List Int} (h:(Z0F b).2=0):Z0F b=(0,0):=by
 unfold Z0F at h ⊢
 simp only at h ⊢
 by_cases c1:240≤b.headD 0
 ·rw [if_pos c1] at h ⊢;exact Z4d (by omega) h
 ·rw [if_neg c1] at h ⊢
  by_cases c2:224≤b.headD 0
  ·rw [if_pos c2] at h ⊢;exact Z4d (by omega) h
  ·rw [if_neg c2] at h ⊢
   by_cases c3:192≤b.headD 0
   ·rw [if_pos c3] at h ⊢;exact Z4d (by omega) h
   ·rw [if_neg c3] at h ⊢
    by_cases c4:128≤b.headD 0
    ·rw [if_pos c4]
    ·rw [if_neg c4] at h ⊢;exact Z4d (by omega) h
theorem Y0F {t:List UInt8} (hne:t≠[]):Z0F (intB t)=if (Lib.decodeL t).1=65533∧(Lib.decodeL t).2=1 then (0,0) else (((Lib.decodeL t).1:Int),(Lib.decodeL t).2):=by
 by_cases hz:(Z0F (intB t)).2=0
 ·rcases Y6W hne with h | ⟨r,h1,h2,rest,h3⟩
  ·rw [h,if_pos ⟨rfl,rfl⟩]
   exact Y2V hz
  ·rw [h3,Y0D h2] at hz
   have:=(Z3G (r:Int)).1
   exact absurd hz (by simp only;omega)
 ·obtain ⟨h1,h2,h3⟩:=Z5s (Z3I t) (r:=(Z0F (intB t)).1) (n:=(Z0F (intB t)).2) rfl hz
  obtain ⟨m,hm,hd⟩:=Y6X h1 h3
  rw [hd]
  have hc:¬ (m=65533∧(encR (Z0F (intB t)).1).length=1):=by
   rintro ⟨rfl,hl⟩
   rw [hm] at hl
   simp [encR] at hl
  rw [if_neg hc,←hm,←h2]
theorem Z8j {t:List UInt8} (hne:t≠[]):Z1f (intB t)=if (Lib.decodeL t).1=65533∧(Lib.decodeL t).2=1 then none else (Z1f (intB (t.drop (Lib.decodeL t).2))).map (((Lib.decodeL t).1:Int) :: ·):=by
 have hni:intB t≠[]:=fun h=>hne (by have:=congrArg List.length h;rw [Z1v] at this;exact List.eq_nil_of_length_eq_zero this)
 rw [Z3H hni,Y0F hne]
 by_cases hc:(Lib.decodeL t).1=65533∧(Lib.decodeL t).2=1
 ·rw [if_pos hc,if_pos hc,if_pos rfl]
 ·have hw:=Lib.decodeL_width t
  rw [if_neg hc,if_neg hc,if_neg (by simp only;omega)]
  simp only [intB,List.map_drop]
theorem Z6X:∀ (n:Nat) (t:List UInt8),t.length≤n→Lib.validD t=(Z1f (intB t)).isSome
 | n,[],_=>by rw [Lib.validD_nil];rfl
 | 0,a::t,h=>absurd h (by simp)
 | n+1,a::t,h=>by
   rw [Lib.validD_step _ (by simp),Z8j (by simp)]
   by_cases hc:(Lib.decodeL (a::t)).1=65533∧(Lib.decodeL (a::t)).2=1
   ·rw [if_pos hc,if_pos hc];rfl
   ·have hw:=Lib.decodeL_width (a::t)
    rw [if_neg hc,if_neg hc,Z6X n _ (by rw [List.length_drop];simp only [List.length_cons] at *;omega)]
    cases Z1f (intB ((a::t).drop (Lib.decodeL (a::t)).2))<;>rfl
theorem Tryz.elU8':Tryz.prog.elem 55=5:=by kernel_rfl
def Y2W (o:Option (List Int)) (w:World) (e:Ending) (w':World):Prop:=
 ∃ v,e=.returned (.tuple #[v,.int .i64 (if o.isSome=true then 0 else 3)])∧Z3k w' w.heap.size v (o.getD [])∧Below w.heap.size w w'
theorem Z9C (A:Option Addr) (n c:Nat) (b:List Int) (w:World) (hn:n=b.length) (hc:n≤c) (h:RdU8 w w.heap.size A b) (hb:n≤100000000) (hu:∀ x∈b,0≤x∧x≤255) :
 Calls Tryz.prog 99 #[.slice A n c] w (Y2W (Z1f b) w):=by
 have N:=hid hn
 generalize hO:Z1f b=o
 have HO:=hid hO
 clear hn hO
 go_enter Tryz.func99,Tryz.ntmps99
 go_wp2_with (fail)
 go_loopg [4,5] n (fun g lv iv wr => ∃ (i:Nat) (w1:World) (l:List Int) (v:Value),i≤n∧g=n-i∧iv=.int .i64 (i:Int)∧w1=wr∧v=lv∧Hid ((Z1f (b.drop i)).map (l ++ ·)=o)∧Z3k w1 w.heap.size v l∧Below w.heap.size w w1∧l.length≤i)
 case atStart=>exact ⟨0,w,[],_,by omega,rfl,rfl,rfl,rfl,hid (by rw [List.drop_zero,HO.out];cases o<;>rfl),Ow.nil _ _,Below.refl _ _,by simp⟩
 case round=>
  obtain ⟨i,w1,l,v,hi,hg,rfl,rfl,rfl,HR,hown,hx,hli⟩:=hrel
  have HG:=hid hg
  clear hg
  by_cases hlt:i<n
  ·obtain ⟨A2,hA2⟩:∃ X,advS A c i 1=X:=⟨_,rfl⟩
   obtain ⟨n2,hn2⟩:∃ X,n-i=X:=⟨_,rfl⟩
   obtain ⟨c2,hc2⟩:∃ X,c-i=X:=⟨_,rfl⟩
   have sl:∀ W,(Instr.slice 55 (.slice A n c) (some (.int .i64 (i:Int))) none none).run Tryz.prog W=.ok (.slice A2 n2 c2) W:=Z9B Tryz.slU8 Tryz.elU8' size_u8 rfl hA2 hn2 hc2 (by omega) hc
   have r2:RdU8 w1 w1.heap.size A2 (b.drop i):=by
    have:=(h.advS (k:=i) (c:=c) (by have:=N.out;omega) (by have:=N.out;omega)).ext hx
    rw [hA2] at this;exact this
   have hl2:n2=(b.drop i).length:=by rw [List.length_drop,←N.out];exact hn2.symm
   have hu2:∀ x∈b.drop i,0≤x∧x≤255:=fun x hx=>hu x (List.mem_of_mem_drop hx)
   have hp2:0<n2:=by omega
   have hp3:n2≤100000000:=by omega
   have hne:b.drop i≠[]:=fun e=>by rw [e] at hl2;simp at hl2;omega
   have HR2:Hid ((if (Z0F (b.drop i)).2=0 then none else (Z1f (b.drop (i+(Z0F (b.drop i)).2))).map ((Z0F (b.drop i)).1 :: ·)).map (l ++ ·)=o):=hid (by
    have t:=HR.out
    rw [Z3H hne,List.drop_drop] at t
    exact t)
   have HN:Hid ((Z0F (b.drop i)).2≠0→(Z0F (b.drop i)).2≤n2):=hid (fun hz=>by
    have t:=(Z5s hu2 (r:=(Z0F (b.drop i)).1) (n:=(Z0F (b.drop i)).2) rfl hz)
    have t2:=congrArg List.length t.2.2
    rw [List.length_append,←t.2.1] at t2
    rw [←hl2] at t2
    omega)
   have HL2:=hid hl2
   have HU:=hid hu2
   have g1:n2+i≤n:=by omega
   have g2:n≤n2+i:=by omega
   clear hA2 hn2 hc2 hl2 hu2 hne HR
   go_wp2_with (go_at_call 185;refine Hid.out ?_)
   refine hid ?_
   refine (Y4T A2 n2 c2 (b.drop i) w1 HL2.out r2 (by omega) hp2 HU.out).mono ?_
   rintro e w2 ⟨rfl,y⟩
   obtain ⟨r,hr⟩:∃ X,(Z0F (b.drop i)).1=X:=⟨_,rfl⟩
   obtain ⟨k,hk⟩:∃ X,(Z0F (b.drop i)).2=X:=⟨_,rfl⟩
   rw [hr,hk] at HR2 ⊢
   rw [hk] at HN
   clear hr hk sl r2 HL2 HU
   have hx2:=Z0a hx y
   have ho2:=hown.below y (Nat.le_refl _)
   by_cases hz:k=0
   ·subst hz
    have HE:Hid (o=none):=hid (by rw [←HR2.out,if_pos rfl];rfl)
    clear HR2 HN
    go_wp2_with (fail)
    refine bodyPost_ret (v:=.tuple #[.slice none 0 0,.int .i64 3]) (by simp [results,Tryz.results99,go_sem]) rfl ?_
    exact ⟨.slice none 0 0,by rw [HE.out];rfl,by rw [HE.out];exact Ow.nil _ _,hx2⟩
   ·have hzb:((k:Int)==0)=false:=beq_eq_false_iff_ne.2 (by omega)
    have hkn:=HN.out hz
    have HR3:Hid ((Z1f (b.drop (i+k))).map ((l++[r]) ++ ·)=o):=hid (by
     have t:=HR2.out
     rw [if_neg hz,Option.map_map] at t
     rw [←t]
     congr 1
     funext z
     simp)
    clear HR2 HN
    go_wp2_with (at_builtin;refine Z9w (m:=[r]) rfl (.tmp 21) (.tmp 23) rfl rfl (ho2.alloc _) _ _ _ _ rfl rfl (Rd.new (enc:=Z46) (size:=1) (fun _=>rfl) w2 21 [r] (cs:=#[.int .i32 r]) rfl rfl) (by simp only [List.length_cons,List.length_nil];omega) (by rw [World.size_alloc];have:=hx2.size;omega) ?_;intro v' w' hown' hgr hv')
    have hx3:Below w.heap.size w w':=(Z0a hx2 (Z0b w2 _)).grown hgr (by rw [World.size_alloc];have:=hx2.size;omega) (fun k hk=>(ho2.wb_lt k hk).1)
    go_roundg (n-(i+k))
    case measure=>have:=HG.out;omega
    case rel=>exact ⟨i+k,w',l++[r],_,by omega,rfl,by go_num,rfl,rfl,HR3,hown',hx3,by simp;omega⟩
  ·have hnl:b.drop i=[]:=List.drop_eq_nil_of_le (by have:=N.out;omega)
   have HE:Hid (o=some l):=hid (by rw [←HR.out,hnl,Z5V];simp)
   clear HR hnl
   go_wp2_with (fail)
   refine bodyPost_ret (v:=.tuple #[v,.int .i64 0]) (by simp [results,Tryz.results99,go_sem]) rfl ?_
   exact ⟨v,by rw [HE.out];rfl,by rw [HE.out];exact hown,hx⟩
theorem Y79 (t:List UInt8) (pos:Nat):Utf8.decode ⟨t.toArray⟩ pos=Lib.decodeL (t.drop pos):=by
 rw [Lib.decode_N,Lib.decodeL_N]
 simp [List.getD,List.getElem?_drop]
theorem Y4W (t:List UInt8):(ByteArray.mk t.toArray).size=t.length:=by simp [ByteArray.size]
theorem Y1G {B k:Nat} {a w:World} (h:Below B a w) (hk:B≤k) (s:ByteArray) (pos:Nat):Below B a (w.iterAt k s pos):=Lib.below_iterAt h hk s pos
theorem Ow.iterAt {α:Type} {enc:α→List Value} {size:Nat} {e:TypeId} {w:World} {base:Nat} {v:Value} {l:List α} (h:Ow enc size e w base v l) {k:Nat} (hk:wb v≠some k) (s:ByteArray) (pos:Nat):Ow enc size e (w.iterAt k s pos) base v l:=
 h.keep fun j hj=>Lib.iterAt_other w k j s pos (fun e=>hk (by rw [hj,e]))
theorem Y0G (A:Option Addr) (n c:Nat) (b:List Int) (w:World) (hn:n=b.length) (hc:n≤c) (h:RdU8 w w.heap.size A b) (hb:n≤100000000) (hu:∀ x∈b,0≤x∧x≤255)
 (hT:Utf8Tabs 0 1 w) :
 Calls Tryz.prog 102 #[.slice A n c] w (Y2W (Z1f b) w):=by
 obtain ⟨t,rfl⟩:=Y2U hu
 rw [Z1v] at hn
 have hB:=Z7x.1 h
 have hV:=Z6X t.length t (Nat.le_refl _)
 generalize hO:Z1f (intB t)=o at hV ⊢
 have HO:=hid hO
 have N:=hid hn
 clear hn hO hu h
 cases o with
 | none=>
   go_enter Tryz.func102,Tryz.ntmps102
   go_wp2_with (go_at_call 191;refine Hid.out ?_)
   refine hid ?_
   refine (Z6W A n c t w N.out hc (by omega) hB hT).mono ?_
   rw [hV]
   rintro e w1 ⟨rfl,y⟩
   clear hV
   go_wp2_with (fail)
   refine bodyPost_ret (v:=.tuple #[.slice none 0 0,.int .i64 3]) (by simp [results,Tryz.results102,go_sem]) rfl ?_
   exact ⟨.slice none 0 0,rfl,Ow.nil _ _,y⟩
 | some L=>
   go_enter Tryz.func102,Tryz.ntmps102
   go_wp2_with (go_at_call 191;refine Hid.out ?_)
   refine hid ?_
   refine (Z6W A n c t w N.out hc (by omega) hB hT).mono ?_
   rw [hV]
   rintro e w1 ⟨rfl,y⟩
   clear hV hT
   have hcv:(convert 55 9 (.slice A n c)).run Tryz.prog w1=.ok (.string ⟨t.toArray⟩) w1:=Y0E N.out (hB.below y (Nat.le_refl _))
   have hsz:=Y4W t
   generalize hs:ByteArray.mk t.toArray=s at hcv hsz
   have HS:=hid hs
   rw [←N.out] at hsz
   have HZ:=hid hsz
   clear hs hsz
   go_wp2_with (fail)
   obtain ⟨k,hk⟩:∃ k,k=w1.heap.size:=⟨_,rfl⟩
   have hk0:w.heap.size≤k:=by rw [hk];exact y.size
   rw [←hk]
   have HK:=hid hk
   clear hcv hk
   go_loopg [4] n (fun g lv wr => ∃ (pos:Nat) (w2:World) (l:List Int) (v:Value),pos≤n∧g=n-pos∧w2=wr∧v=lv∧Hid (w2.heap[k]? = some (.stringIter s pos))∧Hid ((Z1f (intB (t.drop pos))).map (l ++ ·)=some L)∧Z3k w2 w.heap.size v l∧Hid (wb v≠some k)∧Below w.heap.size w w2∧l.length≤pos)
   case atStart=>
    refine ⟨0,_,[],_,by omega,rfl,rfl,rfl,hid ?_,hid (by rw [List.drop_zero,HO.out];rfl),Ow.nil _ _,hid (by simp [wb]),?_,by simp⟩
    ·rw [HK.out];exact World.iter_heap w1 s 0
    ·exact y.alloc y.size _
   case round=>
    obtain ⟨pos,w2,l,v,hp,hg,rfl,rfl,HI,HR,hown,HW,hx,hlp⟩:=hrel
    have HG:=hid hg
    clear hg
    by_cases hlt:pos<n
    ·have hne:t.drop pos≠[]:=fun e=>by
      have:=congrArg List.length e
      rw [List.length_drop,List.length_nil] at this
      have:=N.out
      omega
     have hnx:∀ ty,(Instr.next (.pointer (some ⟨k,0,none⟩)) true ty).run Tryz.prog w2=_:=fun ty=>Lib.run_next_any_at w2 k s pos ty HI.out (by rw [HZ.out];exact hlt)
     have hd:Utf8.decode s pos=Lib.decodeL (t.drop pos):=by rw [←HS.out];exact Y79 t pos
     have t1:=HR.out
     rw [Z8j hne,List.drop_drop] at t1
     have hw:=Lib.decodeL_width (t.drop pos)
     have hr1:=Lib.decodeL_rune (t.drop pos)
     obtain ⟨m,hm⟩:∃ X,(Lib.decodeL (t.drop pos)).1=X:=⟨_,rfl⟩
     obtain ⟨q,hq⟩:∃ X,(Lib.decodeL (t.drop pos)).2=X:=⟨_,rfl⟩
     have hnc:¬ (m=65533∧q=1):=fun hc=>by
      rw [hm,hq,if_pos hc] at t1
      cases t1
     have hnx2:Z0F (intB (t.drop pos))=((m:Int),q):=by rw [Y0F hne,hm,hq,if_neg hnc]
     have hqn:pos+q≤n:=by
      have t2:=(Z5s (Z3I _) hnx2 (by omega)).2
      have t3:=congrArg List.length t2.2
      rw [List.length_append,←t2.1,Z1v,List.length_drop] at t3
      have:=N.out
      omega
     rw [hm,hq,if_neg hnc] at t1
     rw [hd,hm,hq] at hnx
     have HR2:Hid ((Z1f (intB (t.drop (pos+q)))).map ((l++[(m:Int)]) ++ ·)=some L):=hid (by
      rw [Option.map_map] at t1
      rw [←t1]
      congr 1
      funext z
      simp)
     rw [hm] at hr1
     rw [hq] at hw
     clear t1 hnx2 hnc hd hm hq HR hne
     have hkz:k<w2.heap.size:=(Array.getElem?_eq_some_iff.1 HI.out).1
     have ho2:=hown.iterAt HW.out s (pos+q)
     have hx2:=Y1G hx hk0 s (pos+q)
     have hit:Hid ((w2.iterAt k s (pos+q)).heap[k]? = some (.stringIter s (pos+q))):=hid (Lib.iterAt_heap w2 k s pos (pos+q) HI.out)
     have hz3:w2.heap.size=(w2.iterAt k s (pos+q)).heap.size:=(Lib.iterAt_size w2 k s (pos+q)).symm
     generalize hw3:w2.iterAt k s (pos+q)=w3 at ho2 hx2 hit hz3 hnx
     rw [hz3] at hkz
     clear hw3 hz3
     go_wp2_with (at_builtin;refine Z9w (m:=[(m:Int)]) rfl (.tmp 16) (.tmp 18) rfl rfl (ho2.alloc _) _ _ _ _ rfl rfl (Rd.new (enc:=Z46) (size:=1) (fun _=>rfl) w3 21 [(m:Int)] (cs:=#[.int .i32 (m:Int)]) rfl rfl) (by simp only [List.length_cons,List.length_nil];omega) (by rw [World.size_alloc];have:=hx2.size;omega) ?_;intro v' w' hown' hgr hv')
     have hx3:Below w.heap.size w w':=(Z0a hx2 (Z0b w3 _)).grown hgr (by rw [World.size_alloc];have:=hx2.size;omega) (fun k hk=>(ho2.wb_lt k hk).1)
     have HI3:Hid (w'.heap[k]? = some (.stringIter s (pos+q))):=hid (by
      rw [hgr.block k (by rw [World.size_alloc];omega) (fun e=>HW.out e.symm),Below.heap_alloc w3 _ k hkz]
      exact hit.out)
     have HW3:Hid (wb v'≠some k):=hid (by
      rcases hv' with ⟨rfl,_⟩|e|e
      ·exact HW.out
      ·rw [e];exact HW.out
      ·rw [e,World.size_alloc];intro e2;injection e2 with e2;omega)
     clear hnx
     go_roundg (n-(pos+q))
     case measure=>have:=HG.out;omega
     case rel=>exact ⟨pos+q,w',_,_,by omega,rfl,rfl,rfl,HI3,HR2,hown',HW3,hx3,by simp;omega⟩
    ·have hnx:∀ ty,(Instr.next (.pointer (some ⟨k,0,none⟩)) true ty).run Tryz.prog w2=_:=fun ty=>Lib.run_next_end_at w2 k s pos ty HI.out (by rw [HZ.out];exact hlt)
     have hE:l=L:=by
      have t1:=HR.out
      rw [List.drop_eq_nil_of_le (by have:=N.out;omega)] at t1
      injection t1 with t1
      simpa using t1
     have HE:=hid hE
     clear hE
     go_wp2_with (fail)
     refine bodyPost_ret (v:=.tuple #[v,.int .i64 0]) (by simp [results,Tryz.results102,go_sem]) rfl ?_
     exact ⟨v,rfl,by rw [←HE.out];exact hown,hx⟩
theorem Z19 {a b:Bool} (h:a=b):Ending.returned (.bool a)=Ending.returned (.bool b):=by rw [h]
theorem Z8k (b:Nat) (w:World):Calls Tryz.prog 286 #[.float .f64 b] w fun e w'=>e=.returned (.bool (Z3o b))∧w=w':=by
 have h:=Y1E b
 have H:=hid h
 clear h
 go_enter Tryz.func286,Tryz.ntmps286
 go_wp2_with (fail)
 go_ret
 exact ⟨Z19 H.out,rfl⟩
theorem Y0H (b:Nat):nanF (b:Int)=Z3o b:=by
 unfold nanF Z3o
 congr 1
 apply propext
 constructor<;>intro h<;>omega
theorem Y2X (b:Nat) (w:World) (hb:b<18446744073709551616):Calls Tryz.prog 216 #[.float .f64 b] w fun e w'=>
 e=.returned (.agg #[.int .u8 3,.int .i64 0,.int .u64 (Z3n b).f,.string ⟨#[]⟩])∧Below w.heap.size w w':=by
 cases hN:Z3o b with
 | true=>
   have hf:(Z3n b).f=9221120237041090560:=by unfold Z3n;rw [Y0H,hN];rfl
   rw [hf]
   have H:=hid hN
   clear hf hN
   go_enter Tryz.func216,Tryz.ntmps216
   go_wp2_with (go_at_call 286;refine (Z8k b _).mono ?_;rintro e w1 ⟨rfl,rfl⟩;rw [H.out])
   refine bodyPost_ret (v:=.agg #[.int .u8 3,.int .i64 0,.int .u64 9221120237041090560,.string ⟨#[]⟩]) (by simp [results,Tryz.results216,go_sem]) rfl ?_
   exact ⟨rfl,Z0b w _⟩
 | false=>
   have hf:(Z3n b).f=b:=by unfold Z3n;rw [Y0H,hN];rfl
   rw [hf]
   have H:=hid hN
   clear hf hN
   go_enter Tryz.func216,Tryz.ntmps216
   go_wp2_with (go_at_call 286;refine (Z8k b _).mono ?_;rintro e w1 ⟨rfl,rfl⟩;rw [H.out])
   refine bodyPost_ret (v:=.agg #[.int .u8 3,.int .i64 0,.int .u64 b,.string ⟨#[]⟩]) (by simp [results,Tryz.results216,go_sem]) rfl ?_
   exact ⟨rfl,Z0b w _⟩
def strI (s:ByteArray):List Int:=intB s.data.toList
theorem Z1l (s:ByteArray):(strI s).length=s.size:=by rw [strI,Z1v,Array.length_toList];rfl
def Z2q (s:ByteArray):Bool:=(Z1f (strI s)).isSome
theorem Z4F (s:ByteArray) (W:World):(convert 9 55 (.string s)).run Tryz.prog W=.ok (.slice (some ⟨W.heap.size,0,none⟩) s.size (grownCap W s.size 0 5)) (Lib.bytesWorld W 5 s):=
 Lib.run_convert_string_bytes W _ _ _ s Tryz.strT Tryz.slU8 Tryz.uU8
theorem Z3Z (s:ByteArray) (W:World):Below W.heap.size W (Lib.bytesWorld W 5 s):=by
 refine ⟨?_,?_,?_,by rw [Lib.bytesWorld_size];omega,fun k hk=>Lib.bytesWorld_at_old W _ s k hk⟩<;>(unfold Lib.bytesWorld World.freeze;split<;>rfl)
theorem Z7y (s:ByteArray) (W:World):RdU8 (Lib.bytesWorld W 5 s) (Lib.bytesWorld W 5 s).heap.size (some ⟨W.heap.size,0,none⟩) (strI s):=by
 refine Z7x.2 fun hl=>⟨_,rfl,by rw [Lib.bytesWorld_size];exact Nat.lt_succ_self _,fun i hi j u hu=>?_⟩
 have hj:j=0∧u=.int .u8 (s.data.toList[i].toNat:Int):=by
  cases j with
  | zero=>simp [encB] at hu;exact ⟨rfl,hu.symm⟩
  | succ j=>simp [encB] at hu
 obtain ⟨rfl,rfl⟩:=hj
 have hs:i<s.size:=by have h:=hi;rw [Array.length_toList] at h;exact h
 have:=Lib.bytesWorld_cell W 5 s i hs
 rw [Z0n,Nat.mul_one]
 rw [show (⟨W.heap.size,0,none⟩:Addr).add i=⟨W.heap.size,i,none⟩ from by unfold Addr.add;split<;>simp_all]
 rw [this]
 rw [List.getD,List.getElem?_eq_getElem hi]
 rfl
def Y6Y (s:ByteArray) (w:World) (e:Ending) (w':World):Prop:=
 e=.returned (.tuple #[if s.size≤64∧Z2q s=true then .agg #[.int .u8 4,.int .i64 0,.int .u64 0,.string s] else .agg #[.int .u8 0,.int .i64 0,.int .u64 0,.string ⟨#[]⟩],.int .i64 (if s.size≤64∧Z2q s=true then 0 else 3)])∧Below w.heap.size w w'
theorem Y4X (s:ByteArray) (w:World) (hT:Utf8Tabs 0 1 w) :
 Calls Tryz.prog 218 #[.string s] w (Y6Y s w):=by
 by_cases h64:64<s.size
 ·have hz:(64:Int)<(s.size:Int):=by omega
  have HN:=hid (show ¬ (s.size≤64∧Z2q s=true) by omega)
  go_enter Tryz.func218,Tryz.ntmps218
  go_wp2_with (fail)
  refine bodyPost_ret (v:=.tuple #[.agg #[.int .u8 0,.int .i64 0,.int .u64 0,.string ⟨#[]⟩],.int .i64 3]) (by simp [results,Tryz.results218,go_sem]) rfl ?_
  exact ⟨by rw [if_neg HN.out,if_neg HN.out],Z0b w _⟩
 ·have hz:¬ ((64:Int)<(s.size:Int)):=by omega
  have hcv:=Z4F s
  go_enter Tryz.func218,Tryz.ntmps218
  go_wp2_with (go_at_call 102;refine Hid.out ?_)
  clear hcv
  refine hid ?_
  obtain ⟨w1,hw1⟩:∃ X:World,X=w.alloc (.cells #[.int .u8 0,.int .i64 0,.int .u64 0,.string ⟨#[]⟩] 73):=⟨_,rfl⟩
  have y1:Below w.heap.size w w1:=by rw [hw1];exact Z0b w _
  have hbox:w1.heap[w.heap.size]? = some (.cells #[.int .u8 0,.int .i64 0,.int .u64 0,.string ⟨#[]⟩] 73 (0,0)):=by rw [hw1];exact heap_alloc_new w _
  have hsz:w1.heap.size=w.heap.size+1:=by rw [hw1,World.size_alloc]
  rw [←hw1]
  clear hw1
  have y2:=Z3Z s w1
  have r2:=Z7y s w1
  rw [hsz] at r2
  have hcap:=grownCap_ge w1 s.size 0 5
  generalize grownCap w1 s.size 0 5=c at *
  have hbox2:=(y2.block w.heap.size (by omega)).trans hbox
  have x2:=Z0a y1 y2
  have hsz2:w.heap.size<(Lib.bytesWorld w1 5 s).heap.size:=by rw [Lib.bytesWorld_size];omega
  generalize Lib.bytesWorld w1 5 s=w2 at *
  refine (Y0G (some ⟨w.heap.size+1,0,none⟩) s.size c (strI s) w2 (Z1l s).symm hcap r2 (by omega) (Z3I _) (Utf8Tabs_below hT x2)).mono ?_
  rintro e w3 ⟨v,rfl,_,y3⟩
  have hbox3:=(y3.block w.heap.size hsz2).trans hbox2
  have x3:=Z0a x2 y3
  obtain ⟨b0,b1,b2,b3⟩:=Z1Y hbox3
  have hfr:=Z0y hbox3
  have hsz3:w.heap.size<w3.heap.size:=by have:=y3.size;omega
  clear hbox hbox2 hbox3 r2 y1 y2 y3 x2 hcap hsz hsz2
  obtain ⟨E,hE⟩:∃ X:Int,(if (Z1f (strI s)).isSome=true then (0:Int) else 3)=X:=⟨_,rfl⟩
  rw [hE]
  cases hok:(Z1f (strI s)).isSome with
  | true=>
    have h0:E=0:=by rw [←hE,if_pos hok]
    subst h0
    have HN:=hid (show s.size≤64∧Z2q s=true from ⟨by omega,hok⟩)
    clear hE hok
    have hf0:=hfr 0
    have hf1:=hfr 1
    have hf2:=hfr 2
    have hf3:=hfr 3
    clear hfr
    go_wp2_with (fail)
    refine bodyPost_ret (v:=.tuple #[.agg #[.int .u8 4,.int .i64 0,.int .u64 0,.string s],.int .i64 0]) (by simp [results,Tryz.results218,go_sem,b0,b1,b2,b3]) rfl ?_
    exact ⟨by rw [if_pos HN.out,if_pos HN.out],((((x3.setCell (by simp) _).setCell (by simp) _).setCell (by simp) _).setCell (by simp) _)⟩
  | false=>
    have h0:E=3:=by rw [←hE,if_neg (by rw [hok];simp)]
    subst h0
    have HN:=hid (show ¬ (s.size≤64∧Z2q s=true) from fun h=>by have:=h.2;unfold Z2q at this;rw [hok] at this;cases this)
    clear hE hok
    have hf0:=hfr 0
    have hf1:=hfr 1
    have hf2:=hfr 2
    have hf3:=hfr 3
    clear hfr
    go_wp2_with (fail)
    refine bodyPost_ret (v:=.tuple #[.agg #[.int .u8 0,.int .i64 0,.int .u64 0,.string ⟨#[]⟩],.int .i64 3]) (by simp [results,Tryz.results218,go_sem,b0,b1,b2,b3]) rfl ?_
    exact ⟨by rw [if_neg HN.out,if_neg HN.out],((((x3.setCell (by simp) _).setCell (by simp) _).setCell (by simp) _).setCell (by simp) _)⟩
def mayV (v:V):Bool:=
 if v.k=1 then beqV v (Y4O (decide (v.n=1)))
 else if v.k=2 then beqV v (intV v.n)
 else if v.k=3 then beqV v (Z3n v.f)
 else if v.k=4 then (decide (v.s.size≤64∧Z2q v.s=true)&&beqV v (Y70 v.s))
 else false
def Y0I (v:V) (w:World) (e:Ending) (w':World):Prop:=e=.returned (.bool (mayV v))∧Below w.heap.size w w'
theorem Z5t (k n f:Int) (s:ByteArray) (w:World) (hf0:0≤f) (hf1:f<18446744073709551616) (hT:Utf8Tabs 0 1 w) :
 Calls Tryz.prog 122 #[.agg #[.int .u8 k,.int .i64 n,.int .u64 f,.string s]] w (Y0I ⟨k,n,f,s⟩ w):=by
 obtain ⟨R,hR⟩:∃ X,mayV ⟨k,n,f,s⟩=X:=⟨_,rfl⟩
 unfold Y0I
 rw [hR]
 have y1:Below w.heap.size w (w.alloc (.cells #[.int .u8 k,.int .i64 n,.int .u64 f,.string s] 73)):=Z0b w _
 have HBX:=hid (heap_alloc_new w (.cells #[.int .u8 k,.int .i64 n,.int .u64 f,.string s] 73))
 have hlt:w.heap.size<(w.alloc (.cells #[.int .u8 k,.int .i64 n,.int .u64 f,.string s] 73)).heap.size:=by simp
 by_cases h1:k=1
 ·subst h1
  obtain ⟨b,hb⟩:∃ X:Bool,(n==1)=X:=⟨_,rfl⟩
  have hd:decide (n=1)=b:=by rw [←hb];rfl
  have hb2:=hb
  rw [show mayV ⟨1,n,f,s⟩=beqV ⟨1,n,f,s⟩ ⟨1,if decide (n=1)=true then 1 else 0,0,⟨#[]⟩⟩ from rfl,hd] at hR
  obtain ⟨m,hm⟩:∃ X:Int,(if b=true then (1:Int) else 0)=X:=⟨_,rfl⟩
  rw [hm] at hR
  have HM:=hid hm
  have HR:=hid hR
  clear hR hd hm hb2
  go_enter Tryz.func122,Tryz.ntmps122
  go_wp2_with (fail)
  generalize w.alloc (.cells #[.int .u8 1,.int .i64 n,.int .u64 f,.string s] 73)=w1 at *
  obtain ⟨b0,b1,b2,b3⟩:=Z1Y HBX.out
  go_region_held3 (fun w'=>w'.cell? ⟨w.heap.size,0,none⟩=some (.int .u8 1)∧w'.cell? ⟨w.heap.size,1,none⟩=some (.int .i64 n)∧w'.cell? ⟨w.heap.size,2,none⟩=some (.int .u64 f)∧w'.cell? ⟨w.heap.size,3,none⟩=some (.string s))
   (go_keep) ((go_at_call 214;refine (Y4P b _).mono ?_;rw [HM.out];rintro e w2 ⟨rfl,y⟩;have x2:Below w.heap.size w w2:=Z0a y1 (show Below w1.heap.size w1 w2 from ⟨y.os,y.tape,y.output,y.size,y.block⟩);obtain ⟨f0,f1,f2,f3⟩:=Z1Y ((y.block w.heap.size hlt).trans HBX.out);clear y))
  all_goals go_wp2_with (fail)
  all_goals go_ret
  all_goals exact ⟨Z19 HR.out,by first|exact x2|exact Z0f x2⟩
 ·by_cases h2:k=2
  ·subst h2
   rw [show mayV ⟨2,n,f,s⟩=beqV ⟨2,n,f,s⟩ ⟨2,n,0,⟨#[]⟩⟩ from rfl] at hR
   have HR:=hid hR
   clear hR h1
   go_enter Tryz.func122,Tryz.ntmps122
   go_wp2_with (fail)
   generalize w.alloc (.cells #[.int .u8 2,.int .i64 n,.int .u64 f,.string s] 73)=w1 at *
   obtain ⟨b0,b1,b2,b3⟩:=Z1Y HBX.out
   go_region_held3 (fun w'=>w'.cell? ⟨w.heap.size,0,none⟩=some (.int .u8 2)∧w'.cell? ⟨w.heap.size,1,none⟩=some (.int .i64 n)∧w'.cell? ⟨w.heap.size,2,none⟩=some (.int .u64 f)∧w'.cell? ⟨w.heap.size,3,none⟩=some (.string s))
    (go_keep) ((go_at_call 215;refine (Y6R n _).mono ?_;rintro e w2 ⟨rfl,y⟩;have x2:Below w.heap.size w w2:=Z0a y1 (show Below w1.heap.size w1 w2 from ⟨y.os,y.tape,y.output,y.size,y.block⟩);obtain ⟨f0,f1,f2,f3⟩:=Z1Y ((y.block w.heap.size hlt).trans HBX.out);clear y))
   all_goals go_wp2_with (fail)
   all_goals go_ret
   all_goals exact ⟨Z19 HR.out,by first|exact x2|exact Z0f x2⟩
  ·by_cases h3:k=3
   ·subst h3
    obtain ⟨F,hF⟩:∃ X,(Z3n f).f=X:=⟨_,rfl⟩
    rw [show mayV ⟨3,n,f,s⟩=beqV ⟨3,n,f,s⟩ ⟨3,0,(Z3n f).f,⟨#[]⟩⟩ from rfl,hF] at hR
    have HR:=hid hR
    have HF:=hid hF
    have hn:=Int.toNat_of_nonneg hf0
    have HN:=hid hn
    have hfl:f.toNat<18446744073709551616:=by omega
    clear hR h1 h2 hF hn
    go_enter Tryz.func122,Tryz.ntmps122
    go_wp2_with (fail)
    generalize w.alloc (.cells #[.int .u8 3,.int .i64 n,.int .u64 f,.string s] 73)=w1 at *
    obtain ⟨b0,b1,b2,b3⟩:=Z1Y HBX.out
    go_region_held3 (fun w'=>w'.cell? ⟨w.heap.size,0,none⟩=some (.int .u8 3)∧w'.cell? ⟨w.heap.size,1,none⟩=some (.int .i64 n)∧w'.cell? ⟨w.heap.size,2,none⟩=some (.int .u64 f)∧w'.cell? ⟨w.heap.size,3,none⟩=some (.string s))
     (go_keep) ((go_at_call 216;refine (Y2X f.toNat _ hfl).mono ?_;rw [HN.out,HF.out];rintro e w2 ⟨rfl,y⟩;have x2:Below w.heap.size w w2:=Z0a y1 (show Below w1.heap.size w1 w2 from ⟨y.os,y.tape,y.output,y.size,y.block⟩);obtain ⟨f0,f1,f2,f3⟩:=Z1Y ((y.block w.heap.size hlt).trans HBX.out);clear y))
    all_goals go_wp2_with (fail)
    all_goals go_ret
    all_goals exact ⟨Z19 HR.out,by first|exact x2|exact Z0f x2⟩
   ·by_cases h4:k=4
    ·subst h4
     obtain ⟨O,hO⟩:∃ X:Bool,decide (s.size≤64∧Z2q s=true)=X:=⟨_,rfl⟩
     rw [show mayV ⟨4,n,f,s⟩=(decide (s.size≤64∧Z2q s=true)&&beqV ⟨4,n,f,s⟩ ⟨4,0,0,s⟩) from rfl,hO] at hR
     have HR:=hid hR
     have HO:=hid hO
     have hT1:=Utf8Tabs_below hT y1
     clear hR h1 h2 h3 hO
     go_enter Tryz.func122,Tryz.ntmps122
     go_wp2_with (go_at_call 218;refine Hid.out ?_)
     generalize w.alloc (.cells #[.int .u8 4,.int .i64 n,.int .u64 f,.string s] 73)=w1 at *
     refine hid ?_
     obtain ⟨b0,b1,b2,b3⟩:=Z1Y HBX.out
     refine (Y4X s w1 hT1).mono ?_
     rintro e w2 ⟨he,y⟩
     have x2:=Z0a y1 y
     obtain ⟨f0,f1,f2,f3⟩:=Z1Y ((y.block w.heap.size hlt).trans HBX.out)
     have hs2:w.heap.size<w2.heap.size:=by have:=y.size;omega
     clear y b0 b1 b2 b3
     cases O with
     | true=>
       have ho:=of_decide_eq_true HO.out
       rw [if_pos ho,if_pos ho] at he
       subst he
       clear ho
       go_wp2_with (fail)
       go_ret
       exact ⟨Z19 (by rw [←HR.out];rfl),x2.alloc x2.size _⟩
     | false=>
       have ho:=of_decide_eq_false HO.out
       rw [if_neg ho,if_neg ho] at he
       subst he
       clear ho
       go_wp2_with (fail)
       go_ret
       exact ⟨Z19 (by rw [←HR.out];rfl),x2.alloc x2.size _⟩
    ·have e:mayV ⟨k,n,f,s⟩=false:=by unfold mayV;simp only;rw [if_neg h1,if_neg h2,if_neg h3,if_neg h4]
     rw [e] at hR
     subst hR
     clear e
     have z1:(k==1)=false:=beq_eq_false_iff_ne.2 h1
     have z2:(k==2)=false:=beq_eq_false_iff_ne.2 h2
     have z3:(k==3)=false:=beq_eq_false_iff_ne.2 h3
     have z4:(k==4)=false:=beq_eq_false_iff_ne.2 h4
     clear h1 h2 h3 h4
     go_enter Tryz.func122,Tryz.ntmps122
     go_wp2_with (fail)
     go_ret
     exact ⟨rfl,y1⟩
end Go.Proofs.YtnmedachaeanbaaGreatDoor
