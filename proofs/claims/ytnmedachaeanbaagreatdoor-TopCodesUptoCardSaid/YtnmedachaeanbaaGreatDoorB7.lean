/- Merged texts. -/
import Derived.Test.YtnmedachaeanbaaGreatDoorB6
import Derived.Lib.VarintBits
import Derived.Lib.Zigzag
namespace Go.Proofs.YtnmedachaeanbaaGreatDoor
set_option maxRecDepth 100000
set_option maxHeartbeats 6400000
open Go.RowKit
open Go.Lib (hid)
set_option linter.unusedVariables false
set_option linter.unusedSimpArgs false
abbrev PF (α:Type):=List Int→Option (α×List Int)
def pU (most:Nat):PF Nat:=fun b=>(rdU 0 b).bind fun z=>if z.1≤most then some z else none
theorem Z1Z {n most:Nat} (h:n<2 ^ 64) (hm:n≤most) (rest:List Int):pU most (uv n++rest)=some (n,rest):=by
 unfold pU
 rw [Y2J h]
 simp [hm]
theorem Z4g {b rest:List Int} {n most:Nat} (hu:U8 b) (h:pU most b=some (n,rest)):b=uv n++rest∧n<2 ^ 64∧n≤most:=by
 unfold pU at h
 cases hr:rdU 0 b with
 | none=>rw [hr] at h;cases h
 | some z=>
   obtain ⟨m,r⟩:=z
   rw [hr] at h
   simp only [Option.bind_some] at h
   split at h
   ·rename_i hle
    injection h with h
    injection h with h1 h2
    subst h1;subst h2
    obtain ⟨e,hl⟩:=Z20 hu hr
    exact ⟨e,hl,hle⟩
   ·cases h
def wB (x:List Int):List Int:=uv x.length++x
def pB (most:Nat):PF (List Int):=fun b=>(pU most b).bind fun z=>if z.1≤z.2.length then some (z.2.take z.1,z.2.drop z.1) else none
theorem Y21 {x:List Int} {most:Nat} (h:x.length<2 ^ 64) (hm:x.length≤most) (rest:List Int):pB most (wB x++rest)=some (x,rest):=by
 unfold pB wB
 rw [List.append_assoc,Z1Z h hm]
 simp
theorem Y0K {b rest x:List Int} {most:Nat} (hu:U8 b) (h:pB most b=some (x,rest)):b=wB x++rest∧U8 x∧x.length<2 ^ 64∧x.length≤most:=by
 unfold pB at h
 cases hr:pU most b with
 | none=>rw [hr] at h;cases h
 | some z=>
   obtain ⟨m,r⟩:=z
   rw [hr] at h
   simp only [Option.bind_some] at h
   split at h
   ·rename_i hle
    injection h with h
    injection h with h1 h2
    subst h1;subst h2
    obtain ⟨e,hl,hm⟩:=Z4g hu hr
    have hle':(r.take m).length=m:=by rw [List.length_take];omega
    refine ⟨?_,?_,by omega,by omega⟩
    ·unfold wB
     rw [hle',List.append_assoc,List.take_append_drop]
     exact e
    ·intro y hy
     exact hu y (by rw [e];exact List.mem_append_right _ (List.mem_of_mem_take hy))
   ·cases h
theorem Y22 (s:ByteArray):strB (strI s)=s:=by unfold strI;rw [Y0J]
theorem Y6Z (s:ByteArray):U8 (strI s):=Z3I _
theorem Z4h {l:List Int} (h:U8 l):strI (strB l)=l:=by
 unfold strI strB intB
 simp only [List.map_map]
 rw [List.map_congr_left (g:=id),List.map_id]
 intro x hx
 have:=h x hx
 simp
 omega
def wV (v:V):List Int:=uv v.k.toNat++if v.k=1∨v.k=2 then uv (zigP v.n) else if v.k=3 then uv v.f.toNat else if v.k=4 then wB (strI v.s) else []
def pV (m:Nat) (k:Nat):PF V:=fun b=>
 if k=1∨k=2 then (rdU 0 b).map fun z=>(⟨k,zagP z.1,0,⟨#[]⟩⟩,z.2)
 else if k=3 then (rdU 0 b).map fun z=>(⟨3,0,z.1,⟨#[]⟩⟩,z.2)
 else if k=4 then (pB m b).map fun z=>(⟨4,0,0,strB z.1⟩,z.2)
 else none
def VForm (v:V):Prop:=(v.k=1∨v.k=2)∧v.f=0∧v.s=⟨#[]⟩ ∧ -9223372036854775808≤v.n∧v.n≤9223372036854775807∨v.k=3∧v.n=0∧v.s=⟨#[]⟩∧0≤v.f∧v.f<18446744073709551616∨v.k=4∧v.n=0∧v.f=0∧v.s.size<2 ^ 64
theorem VForm.k {v:V} (h:VForm v):1≤v.k∧v.k≤4:=by
 rcases h with ⟨h|h,_⟩ | ⟨h,_⟩ | ⟨h,_⟩<;>omega
def wVt (v:V):List Int:=if v.k=1∨v.k=2 then uv (zigP v.n) else if v.k=3 then uv v.f.toNat else if v.k=4 then wB (strI v.s) else []
theorem Z8n (v:V):wV v=uv v.k.toNat++wVt v:=rfl
theorem Y23 {v:V} {m:Nat} (h:VForm v) (hm:v.s.size≤m) (rest:List Int):pV m v.k.toNat (wVt v++rest)=some (v,rest):=by
 obtain ⟨k,n,f,s⟩:=v
 unfold VForm at h
 unfold pV wVt
 simp only at h hm ⊢
 rcases h with ⟨hk,rfl,rfl,h0,h1⟩ | ⟨rfl,rfl,rfl,h0,h1⟩ | ⟨rfl,rfl,rfl,h0⟩
 ·rw [if_pos (by omega),if_pos hk,Y2J (Z8c h0 h1)]
  simp only [Option.map_some,Y6P]
  rw [Int.toNat_of_nonneg (by omega)]
 ·rw [if_neg (by omega),if_pos (by omega),if_neg (by omega),if_pos rfl,Y2J (by omega)]
  simp only [Option.map_some]
  rw [Int.toNat_of_nonneg h0]
 ·rw [if_neg (by omega),if_neg (by omega),if_pos (by omega),if_neg (by omega),if_neg (by omega),if_pos rfl,Y21 (by rw [Z1l];exact h0) (by rw [Z1l];exact hm)]
  simp only [Option.map_some,Y22]
theorem Y6x {v:V} {m k:Nat} {b rest:List Int} (hu:U8 b) (h:pV m k b=some (v,rest)):VForm v∧v.k=k∧b=wVt v++rest:=by
 unfold pV at h
 split at h
 ·rename_i hk
  cases hr:rdU 0 b with
  | none=>rw [hr] at h;cases h
  | some z=>
    obtain ⟨n,r⟩:=z
    rw [hr] at h
    injection h with h
    injection h with h1 h2
    subst h1;subst h2
    obtain ⟨e,hl⟩:=Z20 hu hr
    have:=Y2K hl
    refine ⟨.inl ⟨by simp only;omega,rfl,rfl,this.1,this.2⟩,rfl,?_⟩
    unfold wVt
    simp only
    rw [if_pos (by omega),Y6Q]
    exact e
 ·rename_i hk
  split at h
  ·rename_i hk3
   subst hk3
   cases hr:rdU 0 b with
   | none=>rw [hr] at h;cases h
   | some z=>
     obtain ⟨n,r⟩:=z
     rw [hr] at h
     injection h with h
     injection h with h1 h2
     subst h1;subst h2
     obtain ⟨e,hl⟩:=Z20 hu hr
     refine ⟨.inr (.inl ⟨rfl,rfl,rfl,by simp only;omega,by simp only;omega⟩),rfl,?_⟩
     unfold wVt
     simp only
     rw [if_neg (by omega),if_pos trivial,Int.toNat_natCast]
     exact e
  ·rename_i hk3
   split at h
   ·rename_i hk4
    subst hk4
    cases hr:pB m b with
    | none=>rw [hr] at h;cases h
    | some z=>
      obtain ⟨x,r⟩:=z
      rw [hr] at h
      injection h with h
      injection h with h1 h2
      subst h1;subst h2
      obtain ⟨e,hx,hl,hm⟩:=Y0K hu hr
      refine ⟨.inr (.inr ⟨rfl,rfl,rfl,?_⟩),rfl,?_⟩
      ·simp only
       rw [←Z1l,Z4h hx]
       exact hl
      ·unfold wVt
       simp only
       rw [if_neg (by omega),if_neg (by omega),if_pos trivial,Z4h hx]
       exact e
   ·cases h
def many {α:Type} (p:PF α):Nat→PF (List α)
 | 0,b=>some ([],b)
 | n+1,b=>(p b).bind fun z=>(many p n z.2).map fun y=>(z.1::y.1,y.2)
def sev {α:Type} (m:Nat) (p:PF α):PF (List α):=fun b=>(pU m b).bind fun z=>many p z.1 z.2
def wL {α:Type} (f:α→List Int) (l:List α):List Int:=uv l.length++l.flatMap f
theorem Z8o {α:Type} {p:PF α} {f:α→List Int} {ok:α→Prop} (h:∀ a rest,ok a→p (f a++rest)=some (a,rest)) (rest:List Int):∀ l:List α,(∀ a∈l,ok a)→many p l.length (l.flatMap f++rest)=some (l,rest)
 | [],_=>rfl
 | a::l,hl=>by
   rw [List.flatMap_cons,List.append_assoc,List.length_cons,many,h a _ (hl a (by simp))]
   simp only [Option.bind_some]
   rw [Z8o h rest l fun x hx=>hl x (by simp [hx])]
   rfl
theorem Y0L {α:Type} {p:PF α} {f:α→List Int} {ok:α→Prop} (h:∀ b a rest,U8 b→p b=some (a,rest)→ok a∧b=f a++rest):∀ (n:Nat) (b:List Int) (l:List α) (rest:List Int),U8 b→many p n b=some (l,rest)→l.length=n∧(∀ a∈l,ok a)∧b=l.flatMap f++rest
 | 0,b,l,rest,hu,hm=>by
   injection hm with hm
   injection hm with h1 h2
   subst h1;subst h2
   exact ⟨rfl,(fun x hx=>by cases hx),rfl⟩
 | n+1,b,l,rest,hu,hm=>by
   rw [many] at hm
   cases hp:p b with
   | none=>rw [hp] at hm;cases hm
   | some z=>
     obtain ⟨a,r⟩:=z
     rw [hp] at hm
     simp only [Option.bind_some] at hm
     obtain ⟨ha,e⟩:=h b a r hu hp
     cases hy:many p n r with
     | none=>rw [hy] at hm;cases hm
     | some y=>
       obtain ⟨l',r'⟩:=y
       rw [hy] at hm
       injection hm with hm
       injection hm with h1 h2
       simp only at h1 h2
       subst h1;subst h2
       obtain ⟨h1,h2,h3⟩:=Y0L h n r l' r' (fun x hx=>hu x (by rw [e];exact List.mem_append_right _ hx)) hy
       refine ⟨by simp [h1],fun x hx=>?_,?_⟩
       ·rcases List.mem_cons.1 hx with rfl|hx
        ·exact ha
        ·exact h2 x hx
       ·rw [e,h3,List.flatMap_cons,List.append_assoc]
theorem Z7B {α:Type} {p:PF α} {f:α→List Int} {ok:α→Prop} (h:∀ a rest,ok a→p (f a++rest)=some (a,rest)) {l:List α} {m:Nat} (hl:∀ a∈l,ok a) (hm:l.length≤m) (h64:l.length<2 ^ 64) (rest:List Int):sev m p (wL f l++rest)=some (l,rest):=by
 unfold sev wL
 rw [List.append_assoc,Z1Z h64 hm]
 exact Z8o h rest l hl
theorem Z9D {α:Type} {p:PF α} {f:α→List Int} {ok:α→Prop} (h:∀ b a rest,U8 b→p b=some (a,rest)→ok a∧b=f a++rest) {m:Nat} {b rest:List Int} {l:List α} (hu:U8 b) (hs:sev m p b=some (l,rest)):(∀ a∈l,ok a)∧b=wL f l++rest∧l.length≤m:=by
 unfold sev at hs
 cases hp:pU m b with
 | none=>rw [hp] at hs;cases hs
 | some z=>
   obtain ⟨n,r⟩:=z
   rw [hp] at hs
   simp only [Option.bind_some] at hs
   obtain ⟨e,_,hn⟩:=Z4g hu hp
   obtain ⟨h1,h2,h3⟩:=Y0L h n r l rest (fun x hx=>hu x (by rw [e];exact List.mem_append_right _ hx)) hs
   refine ⟨h2,?_,by omega⟩
   unfold wL
   rw [h1,List.append_assoc,←h3]
   exact e
def wAt (a:At):List Int:=uv a.key.toNat++wV a.v
def wCh (c:Ch):List Int:=uv c.key.toNat++if c.gone=true then uv 0 else wV c.v
def Z9E:Nat:=9223372036854775807
def pAt (m:Nat):PF At:=fun b=>(pU Z9E b).bind fun z=>(pU 255 z.2).bind fun y=>(pV m y.1 y.2).map fun x=>(⟨z.1,x.1⟩,x.2)
def pCh (m:Nat):PF Ch:=fun b=>(pU Z9E b).bind fun z=>(pU 255 z.2).bind fun y=>if y.1=0 then some (⟨z.1,true,⟨0,0,0,⟨#[]⟩⟩⟩,y.2) else (pV m y.1 y.2).map fun x=>(⟨z.1,false,x.1⟩,x.2)
def Y24 (m:Nat) (a:At):Prop:=0≤a.key∧a.key≤9223372036854775807∧VForm a.v∧a.v.s.size≤m
def Y25 (m:Nat) (c:Ch):Prop:=0≤c.key∧c.key≤9223372036854775807∧if c.gone=true then c.v=⟨0,0,0,⟨#[]⟩⟩ else VForm c.v∧c.v.s.size≤m
theorem Z9F {b x rest:List Int} (hu:U8 b) (e:b=x++rest):U8 rest:=fun y hy=>hu y (by rw [e];exact List.mem_append_right _ hy)
theorem Y43 {m:Nat} {a:At} (h:Y24 m a) (rest:List Int):pAt m (wAt a++rest)=some (a,rest):=by
 obtain ⟨h0,h1,h2,h3⟩:=h
 have hk:=h2.k
 unfold pAt wAt
 rw [List.append_assoc,Z1Z (by omega) (by unfold Z9E;omega)]
 simp only [Option.bind_some]
 rw [Z8n,List.append_assoc,Z1Z (by omega) (by omega)]
 simp only [Option.bind_some]
 rw [Y23 h2 h3]
 simp only [Option.map_some]
 rw [Int.toNat_of_nonneg h0]
theorem Z2s {α β:Type} {o:Option α} {f:α→Option β} {b:β} (h:o.bind f=some b):∃ a,o=some a∧f a=some b:=by
 cases o with
 | none=>cases h
 | some a=>exact ⟨a,rfl,h⟩
theorem Z3r {α β:Type} {o:Option α} {f:α→β} {b:β} (h:o.map f=some b):∃ a,o=some a∧f a=b:=by
 cases o with
 | none=>cases h
 | some a=>exact ⟨a,rfl,by injection h⟩
theorem Y26 {m k:Nat} {b rest:List Int} {v:V} (hu:U8 b) (h:pV m k b=some (v,rest)):v.s.size≤m:=by
 unfold pV at h
 split at h
 ·obtain ⟨z,_,e⟩:=Z3r h
  injection e with e _
  subst e
  exact Nat.zero_le _
 ·split at h
  ·obtain ⟨z,_,e⟩:=Z3r h
   injection e with e _
   subst e
   exact Nat.zero_le _
  ·split at h
   ·obtain ⟨z,hz,e⟩:=Z3r h
    injection e with e _
    subst e
    obtain ⟨_,hx,_,hm⟩:=Y0K (x:=z.1) (rest:=z.2) hu hz
    simp only
    rw [←Z1l,Z4h hx]
    exact hm
   ·cases h
theorem Y60 {m:Nat} (b:List Int) (a:At) (rest:List Int) (hu:U8 b) (h:pAt m b=some (a,rest)):Y24 m a∧b=wAt a++rest:=by
 unfold pAt at h
 obtain ⟨⟨k,r1⟩,h1,h⟩:=Z2s h
 obtain ⟨⟨q,r2⟩,h2,h⟩:=Z2s h
 obtain ⟨⟨v,r3⟩,h3,e⟩:=Z3r h
 injection e with e1 e2
 simp only at e1 e2 h2 h3
 subst e1;subst e2
 obtain ⟨g1,_,g2⟩:=Z4g hu h1
 have u1:=Z9F hu g1
 obtain ⟨g3,_,_⟩:=Z4g u1 h2
 have u2:=Z9F u1 g3
 obtain ⟨g4,g5,g6⟩:=Y6x u2 h3
 refine ⟨⟨by simp only;omega,by unfold Z9E at g2;simp only;omega,g4,Y26 u2 h3⟩,?_⟩
 unfold wAt
 simp only
 rw [Z8n,g5,Int.toNat_natCast,Int.toNat_natCast,List.append_assoc,List.append_assoc,←g6,←g3,←g1]
theorem Y44 {m:Nat} {c:Ch} (h:Y25 m c) (rest:List Int):pCh m (wCh c++rest)=some (c,rest):=by
 obtain ⟨k,g,v⟩:=c
 obtain ⟨h0,h1,h2⟩:=h
 simp only at h0 h1 h2
 unfold pCh wCh
 simp only
 rw [List.append_assoc,Z1Z (by omega) (by unfold Z9E;omega)]
 simp only [Option.bind_some]
 cases g with
 | true=>
   rw [if_pos rfl] at h2
   rw [if_pos rfl,Z1Z (by omega) (by omega)]
   simp only [Option.bind_some,if_pos]
   rw [h2,Int.toNat_of_nonneg h0]
 | false=>
   rw [if_neg (by simp)] at h2
   have hk:=h2.1.k
   rw [if_neg (by simp),Z8n,List.append_assoc,Z1Z (by omega) (by omega)]
   simp only [Option.bind_some]
   rw [if_neg (by omega),Y23 h2.1 h2.2]
   simp only [Option.map_some]
   rw [Int.toNat_of_nonneg h0]
theorem Y61 {m:Nat} (b:List Int) (c:Ch) (rest:List Int) (hu:U8 b) (h:pCh m b=some (c,rest)):Y25 m c∧b=wCh c++rest:=by
 unfold pCh at h
 obtain ⟨⟨k,r1⟩,h1,h⟩:=Z2s h
 obtain ⟨⟨q,r2⟩,h2,h⟩:=Z2s h
 simp only at h2 h
 obtain ⟨g1,_,g2⟩:=Z4g hu h1
 have u1:=Z9F hu g1
 obtain ⟨g3,_,_⟩:=Z4g u1 h2
 have u2:=Z9F u1 g3
 split at h
 ·rename_i hq
  subst hq
  injection h with e
  injection e with e1 e2
  subst e1;subst e2
  refine ⟨⟨by simp only;omega,by unfold Z9E at g2;simp only;omega,by simp only [if_pos]⟩,?_⟩
  unfold wCh
  simp only [if_pos]
  rw [Int.toNat_natCast,List.append_assoc,←g3,←g1]
 ·rename_i hq
  obtain ⟨⟨v,r3⟩,h3,e⟩:=Z3r h
  injection e with e1 e2
  simp only at e1 e2 h3
  subst e1;subst e2
  obtain ⟨g4,g5,g6⟩:=Y6x u2 h3
  refine ⟨⟨by simp only;omega,by unfold Z9E at g2;simp only;omega,?_⟩,?_⟩
  ·simp only
   rw [if_neg (by simp)]
   exact ⟨g4,Y26 u2 h3⟩
  ·unfold wCh
   simp only
   rw [if_neg (by simp),Z8n,g5,Int.toNat_natCast,Int.toNat_natCast,List.append_assoc,List.append_assoc,←g6,←g3,←g1]
def wO (o:Opd):List Int:=uv o.k.toNat++if o.k=1 then uv o.n.toNat++wL wCh o.p else if o.k=2 then wB (Z0D o.r)++wL wAt o.s else if o.k=3 then uv o.n.toNat else []
def pO (m:Nat):PF Opd:=fun b=>(pU 255 b).bind fun z=>
 if z.1=1 then (pU 536870912 z.2).bind fun y=>(sev m (pCh m) y.2).map fun x=>(⟨1,y.1,[],[],x.1⟩,x.2)
 else if z.1=2 then (pB m z.2).bind fun y=>(Z1f y.1).bind fun l=>(sev m (pAt m) y.2).map fun x=>(⟨2,0,l,x.1,[]⟩,x.2)
 else if z.1=3 then (pU 536870912 z.2).map fun y=>(⟨3,y.1,[],[],[]⟩,y.2)
 else none
def Z6K (m:Nat) (o:Opd):Prop:=
 o.k=1∧0≤o.n∧o.n≤536870912∧o.r=[]∧o.s=[]∧(∀ c∈o.p,Y25 m c)∧o.p.length≤m ∨
 o.k=2∧o.n=0∧okR o.r=true∧(Z0D o.r).length≤m∧(∀ a∈o.s,Y24 m a)∧o.s.length≤m∧o.p=[] ∨
 o.k=3∧0≤o.n∧o.n≤536870912∧o.r=[]∧o.s=[]∧o.p=[]
theorem Y62 {m:Nat} (hm:m<2 ^ 64) (o:Opd) (rest:List Int) (h:Z6K m o):pO m (wO o++rest)=some (o,rest):=by
 obtain ⟨k,n,r,s,p⟩:=o
 unfold Z6K at h
 simp only at h
 unfold pO wO
 simp only
 rcases h with ⟨rfl,h0,h1,rfl,rfl,h2,h3⟩ | ⟨rfl,rfl,h0,h1,h2,h3,rfl⟩ | ⟨rfl,h0,h1,rfl,rfl,rfl⟩
 ·rw [List.append_assoc,Z1Z (by omega) (by omega)]
  simp only [Option.bind_some]
  rw [if_pos (by rfl),if_pos trivial,List.append_assoc,Z1Z (by omega) (by omega)]
  simp only [Option.bind_some]
  rw [Z7B (fun a rest h=>Y44 h rest) h2 h3 (by omega)]
  simp only [Option.map_some]
  rw [Int.toNat_of_nonneg h0]
 ·rw [List.append_assoc,Z1Z (by omega) (by omega)]
  simp only [Option.bind_some]
  rw [if_neg (by decide),if_pos (by rfl),if_neg (by omega),if_pos trivial,List.append_assoc,Y21 (by omega) h1]
  simp only [Option.bind_some]
  rw [Y2T h0]
  simp only [Option.bind_some]
  rw [Z7B (fun a rest h=>Y43 h rest) h2 h3 (by omega)]
  simp only [Option.map_some]
 ·rw [List.append_assoc,Z1Z (by omega) (by omega)]
  simp only [Option.bind_some]
  rw [if_neg (by decide),if_neg (by decide),if_pos (by rfl),if_neg (by omega),if_neg (by omega),if_pos trivial,Z1Z (by omega) (by omega)]
  simp only [Option.map_some]
  rw [Int.toNat_of_nonneg h0]
theorem Y8c {m:Nat} (b:List Int) (o:Opd) (rest:List Int) (hu:U8 b) (h:pO m b=some (o,rest)):Z6K m o∧b=wO o++rest:=by
 unfold pO at h
 obtain ⟨⟨k,r1⟩,h1,h⟩:=Z2s h
 simp only at h
 obtain ⟨g1,_,_⟩:=Z4g hu h1
 have u1:=Z9F hu g1
 split at h
 ·rename_i hk
  subst hk
  obtain ⟨⟨n,r2⟩,h2,h⟩:=Z2s h
  obtain ⟨⟨p,r3⟩,h3,e⟩:=Z3r h
  injection e with e1 e2
  simp only at e1 e2 h3
  subst e1;subst e2
  obtain ⟨g2,_,g3⟩:=Z4g u1 h2
  have u2:=Z9F u1 g2
  obtain ⟨g4,g5,g6⟩:=Z9D (f:=wCh) (fun b a rest hu h=>Y61 b a rest hu h) u2 h3
  refine ⟨.inl ⟨rfl,by simp only;omega,by simp only;omega,rfl,rfl,g4,g6⟩,?_⟩
  unfold wO
  simp only [if_pos]
  rw [Int.toNat_natCast,List.append_assoc,List.append_assoc,←g5,←g2]
  exact g1
 ·split at h
  ·rename_i hk
   subst hk
   obtain ⟨⟨x,r2⟩,h2,h⟩:=Z2s h
   obtain ⟨l,hl,h⟩:=Z2s h
   obtain ⟨⟨s,r3⟩,h3,e⟩:=Z3r h
   injection e with e1 e2
   simp only at e1 e2 h3 hl
   subst e1;subst e2
   obtain ⟨g2,gx,_,g3⟩:=Y0K u1 h2
   obtain ⟨hr1,hr2⟩:=Z7w gx hl
   have u2:=Z9F u1 g2
   obtain ⟨g4,g5,g6⟩:=Z9D (f:=wAt) (fun b a rest hu h=>Y60 b a rest hu h) u2 h3
   refine ⟨.inr (.inl ⟨rfl,rfl,hr1,by rw [hr2];exact g3,g4,g6,rfl⟩),?_⟩
   unfold wO
   simp only
   rw [if_neg (by omega),if_pos trivial,hr2,List.append_assoc,List.append_assoc,←g5,←g2]
   exact g1
  ·split at h
   ·rename_i hk
    subst hk
    obtain ⟨⟨n,r2⟩,h2,e⟩:=Z3r h
    injection e with e1 e2
    simp only at e1 e2
    subst e1;subst e2
    obtain ⟨g2,_,g3⟩:=Z4g u1 h2
    refine ⟨.inr (.inr ⟨rfl,by simp only;omega,by simp only;omega,rfl,rfl,rfl⟩),?_⟩
    unfold wO
    simp only
    rw [if_neg (by omega),if_neg (by omega),if_pos trivial,Int.toNat_natCast,List.append_assoc,←g2]
    exact g1
   ·cases h
def wX (x:List Opd):List Int:=wL wO x
def pX (m:Nat):PF (List Opd):=sev m (pO m)
theorem Y63 {m:Nat} (hm:m<2 ^ 64) {x:List Opd} (h:∀ o∈x,Z6K m o) (hx:x.length≤m):pX m (wX x)=some (x,[]):=by
 have:=Z7B (fun a rest h=>Y62 hm a rest h) h hx (by omega) []
 rwa [List.append_nil] at this
theorem Y8d {m:Nat} {b:List Int} {x:List Opd} (hu:U8 b) (h:pX m b=some (x,[])):b=wX x∧x.length≤m∧∀ o∈x,Z6K m o:=by
 obtain ⟨h1,h2,h3⟩:=Z9D (f:=wO) (fun b a rest hu h=>Y8c b a rest hu h) hu h
 rw [List.append_nil] at h2
 exact ⟨h2,h3,h1⟩
theorem Z8p (x y:Int):bits .xor .i64 x y=bits .xor .i64 y x:=by
 show IntKind.i64.wrap ((BitVec.ofInt 64 x ^^^ BitVec.ofInt 64 y).toNat:Int)=IntKind.i64.wrap ((BitVec.ofInt 64 y ^^^ BitVec.ofInt 64 x).toNat:Int)
 rw [BitVec.xor_comm]
theorem Z8q (x y:Int):bits .xor .u64 x y=bits .xor .u64 y x:=by
 show IntKind.u64.wrap ((BitVec.ofInt 64 x ^^^ BitVec.ofInt 64 y).toNat:Int)=IntKind.u64.wrap ((BitVec.ofInt 64 y ^^^ BitVec.ofInt 64 x).toNat:Int)
 rw [BitVec.xor_comm]
theorem Y45 (x:Nat) (h:x<9223372036854775808):bits .xor .i64 (x:Int) 0=x:=by
 show IntKind.i64.wrap ((BitVec.ofInt 64 (x:Int) ^^^ BitVec.ofInt 64 0).toNat:Int)=_
 have h2:(BitVec.ofInt 64 (x:Int)).toNat=x:=by
  rw [BitVec.ofInt_natCast,BitVec.toNat_ofNat];exact Nat.mod_eq_of_lt (by omega)
 have h3:(BitVec.ofInt 64 0).toNat=0:=by decide
 rw [BitVec.toNat_xor,h2,h3,Nat.xor_zero,IntKind.wrap_i64]
 omega
theorem Y46 (x:Nat) (h:x<18446744073709551616):bits .xor .u64 (x:Int) 0=x:=by
 show IntKind.u64.wrap ((BitVec.ofInt 64 (x:Int) ^^^ BitVec.ofInt 64 0).toNat:Int)=_
 have h2:(BitVec.ofInt 64 (x:Int)).toNat=x:=by
  rw [BitVec.ofInt_natCast,BitVec.toNat_ofNat];exact Nat.mod_eq_of_lt (by omega)
 have h3:(BitVec.ofInt 64 0).toNat=0:=by decide
 rw [BitVec.toNat_xor,h2,h3,Nat.xor_zero,IntKind.wrap_u64]
 omega
theorem Y8e {n:Int} (h:0≤n) (h1:n≤9223372036854775807):bits .xor .u64 (n*2) (n / 9223372036854775808)=((2*n).toNat:Int):=by
 have e1:n*2=(((2*n).toNat:Nat):Int):=by omega
 have e2:n / 9223372036854775808=0:=by omega
 rw [e2,e1,Y46 _ (by omega)]
theorem Y64 {n:Int} (h:n<0) (h1 : -9223372036854775808≤n):bits .xor .u64 (IntKind.u64.wrap (IntKind.u64.wrap n*2)) (IntKind.u64.wrap (n / 9223372036854775808))=((-2*n-1).toNat:Int):=by
 have e1:IntKind.u64.wrap (n / 9223372036854775808)=IntKind.u64.max:=by
  rw [show n / 9223372036854775808 = -1 by omega]
  decide
 rw [e1,Z8q,Lib.zigzag_neg h1 h]
 unfold Lib.zigzag
 rw [if_neg (by omega)]
theorem Y27 (m:Nat) (w:World) (h:m<2 ^ 64):Calls Tryz.prog 350 #[.int .u64 (m:Int)] w fun e w'=>e=.returned (.int .i64 (zagP m))∧w'=w:=by
 have h':m<18446744073709551616:=h
 have ha:bits .and .u64 (m:Int) 1=(m:Int) % 2:=Lib.u64_and1 _ (by omega) (by omega)
 rcases Nat.mod_two_eq_zero_or_one m with h2|h2
 ·have hb:(m:Int) % 2=0:=by omega
  rw [hb] at ha
  have HZ:Hid (zagP m=(m / 2:Nat)):=hid (by unfold zagP;rw [if_pos h2])
  go_enter Tryz.func350,Tryz.ntmps350
  go_wp2_with (fail)
  go_ret
  exact ⟨Z0k (by rw [HZ.out];exact Y45 (m / 2) (by omega)),rfl⟩
 ·have hb:(m:Int) % 2=1:=by omega
  rw [hb] at ha
  have HZ:Hid (zagP m = -(m / 2:Nat)-1):=hid (by unfold zagP;rw [if_neg (by omega)])
  go_enter Tryz.func350,Tryz.ntmps350
  go_wp2_with (fail)
  go_ret
  exact ⟨Z0k (by rw [HZ.out,Z8p];exact Lib.i64_not (m / 2) (by omega)),rfl⟩
theorem Y65 (n:Int) (w:World) (h0 : -9223372036854775808≤n) (h1:n≤9223372036854775807):Calls Tryz.prog 353 #[.int .i64 n] w fun e w'=>e=.returned (.int .u64 (zigP n))∧w'=w:=by
 by_cases h2:0≤n
 ·have HZ:Hid (zigP n=(2*n).toNat):=hid (by unfold zigP;rw [if_pos h2])
  go_enter Tryz.func353,Tryz.ntmps353
  go_wp2_with (fail)
  go_ret
  exact ⟨Z0k (by rw [HZ.out];exact Y8e h2 h1),rfl⟩
 ·have HZ:Hid (zigP n=(-2*n-1).toNat):=hid (by unfold zigP;rw [if_neg h2])
  go_enter Tryz.func353,Tryz.ntmps353
  go_wp2_with (fail)
  go_ret
  exact ⟨Z0k (by rw [HZ.out];exact Y64 (by omega) h0),rfl⟩
theorem Z9G {k acc:Nat} {x:Int} (hk:k≤9) (ha:acc<2 ^ (7*k)) (h0:0≤x) (h1:x≤127) (h9:k=9→x≤1) :
 bits .or .u64 (acc:Int) (IntKind.u64.wrap (IntKind.u64.wrap x*2 ^ (7*k)))=((acc+2 ^ (7*k)*x.toNat:Nat):Int):=by
 have e1:IntKind.u64.wrap x=x:=IntWalk.u64_in _ (by omega)
 have hs:k=0∨k=1∨k=2∨k=3∨k=4∨k=5∨k=6∨k=7∨k=8∨k=9:=by omega
 rw [e1]
 rcases hs with rfl|rfl|rfl|rfl|rfl|rfl|rfl|rfl|rfl|rfl
 ·have e2:(2:Int) ^ (7*0)=1:=by decide
  have e3:(2:Nat) ^ (7*0)=1:=by decide
  rw [e2,e3]
  rw [e3] at ha
  have:=h9
  rw [IntWalk.u64_in _ (by omega),u64_orv0 _ _ (by omega) (by omega) (by omega) (by omega) (by omega)]
  omega
 ·have e2:(2:Int) ^ (7*1)=128:=by decide
  have e3:(2:Nat) ^ (7*1)=128:=by decide
  rw [e2,e3]
  rw [e3] at ha
  have:=h9
  rw [IntWalk.u64_in _ (by omega),u64_orv7 _ _ (by omega) (by omega) (by omega) (by omega) (by omega)]
  omega
 ·have e2:(2:Int) ^ (7*2)=16384:=by decide
  have e3:(2:Nat) ^ (7*2)=16384:=by decide
  rw [e2,e3]
  rw [e3] at ha
  have:=h9
  rw [IntWalk.u64_in _ (by omega),u64_orv14 _ _ (by omega) (by omega) (by omega) (by omega) (by omega)]
  omega
 ·have e2:(2:Int) ^ (7*3)=2097152:=by decide
  have e3:(2:Nat) ^ (7*3)=2097152:=by decide
  rw [e2,e3]
  rw [e3] at ha
  have:=h9
  rw [IntWalk.u64_in _ (by omega),u64_orv21 _ _ (by omega) (by omega) (by omega) (by omega) (by omega)]
  omega
 ·have e2:(2:Int) ^ (7*4)=268435456:=by decide
  have e3:(2:Nat) ^ (7*4)=268435456:=by decide
  rw [e2,e3]
  rw [e3] at ha
  have:=h9
  rw [IntWalk.u64_in _ (by omega),u64_orv28 _ _ (by omega) (by omega) (by omega) (by omega) (by omega)]
  omega
 ·have e2:(2:Int) ^ (7*5)=34359738368:=by decide
  have e3:(2:Nat) ^ (7*5)=34359738368:=by decide
  rw [e2,e3]
  rw [e3] at ha
  have:=h9
  rw [IntWalk.u64_in _ (by omega),u64_orv35 _ _ (by omega) (by omega) (by omega) (by omega) (by omega)]
  omega
 ·have e2:(2:Int) ^ (7*6)=4398046511104:=by decide
  have e3:(2:Nat) ^ (7*6)=4398046511104:=by decide
  rw [e2,e3]
  rw [e3] at ha
  have:=h9
  rw [IntWalk.u64_in _ (by omega),u64_orv42 _ _ (by omega) (by omega) (by omega) (by omega) (by omega)]
  omega
 ·have e2:(2:Int) ^ (7*7)=562949953421312:=by decide
  have e3:(2:Nat) ^ (7*7)=562949953421312:=by decide
  rw [e2,e3]
  rw [e3] at ha
  have:=h9
  rw [IntWalk.u64_in _ (by omega),u64_orv49 _ _ (by omega) (by omega) (by omega) (by omega) (by omega)]
  omega
 ·have e2:(2:Int) ^ (7*8)=72057594037927936:=by decide
  have e3:(2:Nat) ^ (7*8)=72057594037927936:=by decide
  rw [e2,e3]
  rw [e3] at ha
  have:=h9
  rw [IntWalk.u64_in _ (by omega),u64_orv56 _ _ (by omega) (by omega) (by omega) (by omega) (by omega)]
  omega
 ·have e2:(2:Int) ^ (7*9)=9223372036854775808:=by decide
  have e3:(2:Nat) ^ (7*9)=9223372036854775808:=by decide
  rw [e2,e3]
  rw [e3] at ha
  have:=h9
  rw [IntWalk.u64_in _ (by omega),u64_orv63 _ _ (by omega) (by omega) (by omega) (by omega) (by omega)]
  omega
theorem Z9H {k:Nat} {x:Int} {t:List Int} (h:k=9∧1<x∨0<k∧x=0):rdU k (x::t)=none:=by rw [rdU,if_pos h]
theorem Y28 {k:Nat} {x:Int} {t:List Int} (h:¬ (k=9∧1<x∨0<k∧x=0)) (hx:x<128):rdU k (x::t)=some (x.toNat,t):=by rw [rdU,if_neg h,if_pos hx]
theorem Y8f {k:Nat} {x:Int} {t:List Int} (h:¬ (k=9∧1<x∨0<k∧x=0)) (hx:¬ x<128):rdU k (x::t)=(rdU (k+1) t).map fun z=>(x.toNat-128+128*z.1,z.2):=by rw [rdU,if_neg h,if_neg hx]
def Z4H (n:Nat):Option (Nat×List Int)→Value
 | some (v,r)=>.tuple #[.int .u64 (v:Int),.int .i64 ((n-r.length:Nat):Int),.int .i64 0]
 | none=>.tuple #[.int .u64 0,.int .i64 0,.int .i64 3]
theorem Z7C (A:Option Addr) (n c k0:Nat) (b:List Int) (w:World) (hn:n=b.length) (hc:n≤c) (h:RdU8 w w.heap.size A b) (hu:U8 b) (hb:n≤1000000000) (hk:k0≤n) :
 Calls Tryz.prog 248 #[.slice A n c,.int .i64 (k0:Int)] w fun e w'=>e=.returned (Z4H n (rdU 0 (b.drop k0)))∧w'=w:=by
 have N:=hid hn
 obtain ⟨A',hA⟩:∃ X,advS A c k0 1=X:=⟨_,rfl⟩
 obtain ⟨m,hm⟩:∃ X,n-k0=X:=⟨_,rfl⟩
 obtain ⟨c',hc'⟩:∃ X,c-k0=X:=⟨_,rfl⟩
 have sl:∀ W,(Instr.slice 55 (.slice A n c) (some (.int .i64 (k0:Int))) none none).run Tryz.prog W=.ok (.slice A' m c') W:=Z9B Tryz.slU8 Tryz.elU8 size_u8 rfl hA hm hc' hk hc
 have R:Hid (RdU8 w w.heap.size A' (b.drop k0)):=hid (by rw [←hA];exact h.advS (by omega) (by omega))
 have L:Hid (m=(b.drop k0).length):=hid (by rw [List.length_drop];omega)
 have M:=hid hm
 have hm1:m≤1000000000:=by omega
 obtain ⟨d,hd⟩:∃ X,b.drop k0=X:=⟨_,rfl⟩
 have UD:Hid (U8 d):=hid (by rw [←hd];exact fun x hx=>hu x (List.mem_of_mem_drop hx))
 obtain ⟨O,hO⟩:∃ X,Z4H n (rdU 0 (b.drop k0))=X:=⟨_,rfl⟩
 rw [hO]
 rw [hd] at hO R L
 have HO:=hid hO
 clear hO hd hA hm hc' h hu hn
 have z0:¬ ((k0:Int)<0):=by omega
 have z1:¬ ((n:Int)<(k0:Int)):=by omega
 go_enter Tryz.func248,Tryz.ntmps248
 go_wp2_with (fail)
 go_loopg [4,21] m (fun g nv iv wr => ∃ (k acc:Nat),k≤m∧k≤9∧g=m-k∧wr=w∧nv=.int .u64 (acc:Int)∧iv=.int .i64 (k:Int)∧Hid (acc<2 ^ (7*k))∧Hid (rdU 0 d=(rdU k (d.drop k)).map fun z=>(acc+2 ^ (7*k)*z.1,z.2)))
 case atStart=>exact ⟨0,0,by omega,by omega,by omega,rfl,rfl,rfl,hid (by simp),hid (by simp)⟩
 case round=>
  obtain ⟨k,acc,hkm,hk9,hg,rfl,rfl,rfl,HA,HR⟩:=hrel
  have HG:=hid hg
  clear hg
  by_cases hlt:k<m
  ·obtain ⟨ad,x,rfl,had,hd1,hx1,hc1⟩:=R.out.el (i:=k) (by have:=L.out;omega)
   have r0:wr.cell? (ad.add (k*1))=some (.int .u8 x):=by have:=hc1 0 _ rfl;rwa [Z0n] at this
   rw [Nat.mul_one] at r0
   have HX:Hid (0≤x∧x≤255):=hid (UD.out x (List.mem_of_getElem? hx1))
   have HD:=hid hd1
   clear hd1 hx1 hc1
   by_cases k9:k=9
   ·subst k9
    have r0':wr.cell? { block:=ad.block,off:=ad.off+9 }=some (.int .u8 x):=by simpa [Addr.add] using r0
    by_cases x1:1<x
    ·have E:Hid (Value.tuple #[.int .u64 0,.int .i64 0,.int .i64 3]=O):=hid (by rw [←HO.out,HR.out,HD.out,Z9H (.inl ⟨rfl,x1⟩)];rfl)
     go_wp2_with (fail)
     go_ret3
     exact ⟨congrArg Ending.returned E.out,rfl⟩
    ·by_cases x0:x=0
     ·have E:Hid (Value.tuple #[.int .u64 0,.int .i64 0,.int .i64 3]=O):=hid (by rw [←HO.out,HR.out,HD.out,Z9H (.inr ⟨by omega,x0⟩)];rfl)
      subst x0
      go_wp2_with (fail)
      go_ret3
      exact ⟨congrArg Ending.returned E.out,rfl⟩
     ·have e1:x=1:=by have:=HX.out;omega
      subst e1
      go_wp2_with (fail)
      go_ret3
      refine ⟨congrArg Ending.returned (Eq.trans ?_ HO.out),rfl⟩
      rw [HR.out,HD.out,Y28 (by omega) (by omega)]
      have ho:=Z9G (k:=9) (x:=1) (by omega) HA.out (by omega) (by omega) (by omega)
      have hl:n-(d.drop (9+1)).length=k0+9+1:=by rw [List.length_drop];have:=L.out;have:=M.out;omega
      simp only [Option.map_some,Z4H,hl]
      simp at ho ⊢
      first|exact ⟨ho,by omega⟩|exact ho
   ·have k9b:((k:Int)==9)=false:=beq_eq_false_iff_ne.2 (by omega)
    by_cases hb:0<k∧x=0
    ·obtain ⟨hk0,rfl⟩:=hb
     have E:Hid (Value.tuple #[.int .u64 0,.int .i64 0,.int .i64 3]=O):=hid (by rw [←HO.out,HR.out,HD.out,Z9H (.inr ⟨hk0,rfl⟩)];rfl)
     have K9:=hid k9
     clear k9
     go_wp2_with (fail)
     go_ret3
     exact ⟨congrArg Ending.returned E.out,rfl⟩
    ·have HB:Hid (¬ (k=9∧1<x∨0<k∧x=0)):=hid (fun h=>h.elim (fun h=>k9 h.1) hb)
     have K9:=hid k9
     clear k9 hb
     by_cases x128:x<128
     ·have ho:=hid (Z9G (k:=k) (x:=x) hk9 HA.out HX.out.1 (by omega) (fun e=>absurd e K9.out))
      have HV:Hid (Value.tuple #[.int .u64 ((acc+2 ^ (7*k)*x.toNat:Nat):Int),.int .i64 ((k0:Int)+(k:Int)+1),.int .i64 0]=O):=hid (by
       rw [←HO.out,HR.out,HD.out,Y28 HB.out x128]
       have hl:n-(d.drop (k+1)).length=k0+k+1:=by rw [List.length_drop];have:=L.out;have:=M.out;omega
       simp only [Option.map_some,Z4H,hl,Int.natCast_add,Int.natCast_one])
      rcases Nat.eq_zero_or_pos k with kz|kp
      ·have kz':¬ (0:Int)<(k:Int):=by omega
       have kz'':¬ 0<k:=by omega
       have KZ:=hid kz
       clear kz
       go_wp2_with (fail)
       go_ret3
       exact ⟨congrArg Ending.returned (Eq.trans (by rw [←ho.out];rfl) HV.out),rfl⟩
      ·have x0:(x==0)=false:=beq_eq_false_iff_ne.2 (fun e=>HB.out (.inr ⟨kp,e⟩))
       have kp':(0:Int)<(k:Int):=by omega
       go_wp2_with (fail)
       go_ret3
       exact ⟨congrArg Ending.returned (Eq.trans (by rw [←ho.out];rfl) HV.out),rfl⟩
     ·have k8:k≤8:=by have:=K9.out;omega
      have ho:=hid (Z9G (k:=k) (x:=x % 128) hk9 HA.out (by omega) (by omega) (fun e=>absurd e K9.out))
      have HN:Hid (bits .and .u8 x 127=x % 128):=hid (u8_and127 x HX.out.1 (by have:=HX.out;omega))
      have HA2:Hid (acc+2 ^ (7*k)*(x % 128).toNat<2 ^ (7*(k+1))):=hid (by
       have h1:(x % 128).toNat≤127:=by omega
       have h2:2 ^ (7*k)*(x % 128).toNat≤2 ^ (7*k)*127:=Nat.mul_le_mul_left _ h1
       have h3:2 ^ (7*(k+1))=2 ^ (7*k)*128:=by rw [Nat.mul_add,Nat.pow_add]
       have:=HA.out
       omega)
      have HR2:Hid (rdU 0 d=(rdU (k+1) (d.drop (k+1))).map fun z=>(acc+2 ^ (7*k)*(x % 128).toNat+2 ^ (7*(k+1))*z.1,z.2)):=hid (by
       rw [HR.out,HD.out,Y8f HB.out x128,Option.map_map]
       congr 1
       funext z
       have h3:2 ^ (7*(k+1))=2 ^ (7*k)*128:=by rw [Nat.mul_add,Nat.pow_add]
       have h4:x.toNat-128=(x % 128).toNat:=by have:=HX.out;omega
       show (acc+2 ^ (7*k)*(x.toNat-128+128*z.1),z.2)=(acc+2 ^ (7*k)*(x % 128).toNat+2 ^ (7*(k+1))*z.1,z.2)
       rw [h3,h4,Nat.mul_add,Nat.mul_assoc,Nat.add_assoc])
      rcases Nat.eq_zero_or_pos k with kz|kp
      ·have kz':¬ (0:Int)<(k:Int):=by omega
       have kz'':¬ 0<k:=by omega
       have KZ:=hid kz
       clear kz
       go_wp2_with (fail)
       go_roundg (m-(k+1))
       case measure=>have:=HG.out;omega
       case rel=>exact ⟨k+1,acc+2 ^ (7*k)*(x % 128).toNat,by omega,by omega,rfl,rfl,by rw [HN.out,ho.out],by go_num,HA2,HR2⟩
      ·have x0:(x==0)=false:=beq_eq_false_iff_ne.2 (fun e=>HB.out (.inr ⟨kp,e⟩))
       have kp':(0:Int)<(k:Int):=by omega
       go_wp2_with (fail)
       go_roundg (m-(k+1))
       case measure=>have:=HG.out;omega
       case rel=>exact ⟨k+1,acc+2 ^ (7*k)*(x % 128).toNat,by omega,by omega,rfl,rfl,by rw [HN.out,ho.out],by go_num,HA2,HR2⟩
  ·have E:Hid (Value.tuple #[.int .u64 0,.int .i64 0,.int .i64 3]=O):=hid (by rw [←HO.out,HR.out,List.drop_of_length_le (by have:=L.out;omega)];rfl)
   go_wp2_with (fail)
   go_ret3
   exact ⟨congrArg Ending.returned E.out,rfl⟩
end Go.Proofs.YtnmedachaeanbaaGreatDoor
