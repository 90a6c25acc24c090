/- Merged texts. -/
import Derived.Test.YtnmedachaeanbaaGreatDoorB31
namespace Go.Proofs.YtnmedachaeanbaaGreatDoor
set_option maxRecDepth 100000
set_option maxHeartbeats 6400000
open Go.RowKit
open Go.Lib (hid Utf8Tabs)
set_option linter.unusedVariables false
set_option linter.unusedSimpArgs false
def stepD (l:List Ky) (st:Bool×Int) (o:Opd):Bool×Int:=if st.1=true then st else if oneP l o=3 then (true,3) else (false,if oneP l o=0 then st.2 else oneP l o)
theorem Y1e (l:List Ky) (x:List OpS) (st:Bool×Int):x.foldl (Z0z l) st=(osOf x).foldl (stepD l) st:=by unfold osOf;rw [List.foldl_map];rfl
theorem Z8Z (x:List OpS):Z0W x=(osOf x).foldl (fun a (o:Opd)=>if o.k=2 then a else IntKind.i64.wrap (a+o.n)) 0:=by unfold Z0W osOf;rw [List.foldl_map];rfl
theorem Z80 (x:List OpS):Z04 x=(osOf x).foldl (fun a (o:Opd)=>if o.k=3 then a else IntKind.i64.wrap (a+Z07 o)) 0:=by unfold Z04 osOf;rw [List.foldl_map];rfl
theorem Y1f {l:List Ky} {x y:List OpS} (h:osOf x=osOf y):mayO l x=mayO l y:=by
 unfold mayO
 rw [Y1e,Y1e,Z8Z,Z8Z,Z80,Z80,h]
theorem Y34 {l:List Ky} {o:Opd} (h:oneP l o≠3) (hi:isOp o):o.s.length≤64∧o.p.length≤64:=by
 have hs:mayS l o.s≠3:=fun e=>by
  unfold oneP at h
  rw [if_pos (Z7Z h),if_neg (by rw [e];decide)] at h
  exact h e
 have h1:o.s.length≤64:=by
  unfold mayS at hs
  by_cases h64:64<o.s.length
  ·rw [if_pos h64] at hs;exact absurd rfl hs
  ·omega
 refine ⟨h1,?_⟩
 rcases hi with ⟨_,_,_,hp⟩ | ⟨_,_,_,_,hp⟩ | ⟨_,_,_,hs0⟩
 ·rw [hp];simp
 ·rw [hp];simp
 ·have h0:mayS l o.s=0:=by rw [hs0];rfl
  unfold oneP at h
  rw [if_pos (Z7Z h),if_pos h0] at h
  unfold mayP at h
  by_cases h64:64<o.p.length
  ·rw [if_pos h64] at h;exact absurd rfl h
  ·omega
theorem Y7z {o:Opd} (h:Z9R o):okOp o:=by
 obtain ⟨⟨h1,h2,h3,h4,h5,h6,h7,h8,h9,h10⟩,g1,g2,g3,g4,g5⟩:=h
 exact ⟨fun a ha=>(h6 a ha).2.2,fun c hc=>⟨(h7 c hc).2.2,g5 c hc⟩,h8,h9,h10⟩
def DecO (l:List Ky) (n:Nat) (b:List Int) (w:World) (e:Ending) (w':World):Prop:=
 Below w.heap.size w w' ∧
 ((∃ r:Int,r≠0∧e=.returned (.tuple #[.slice none 0 0,.int .i64 r])∧∀ X:List OpS,pX n b=some (osOf X,[])→mayO l X=0→mkU (Z0i (osOf X))≠osOf X) ∨
  (∃ A c X,e=.returned (.tuple #[.slice A X.length c,.int .i64 0])∧OpsC w' A X.length c X∧pX n b=some (osOf X,[])∧mayO l X=0∧mkU (Z0i (osOf X))=osOf X))
theorem Z4T (s:Nat) (l:List Ky) (A:Option Addr) (n c:Nat) (b:List Int) (w:World) (hn:n=b.length) (hc:n≤c) (h:RdU8 w w.heap.size A b) (hu:U8 b) (hb:n≤100000000) (hS:Sch w s l) (hT:Utf8Tabs 0 1 w)
 (hsz:∀ X:List OpS,pX n b=some (osOf X,[])→szN X≤400000) :
 Calls Tryz.prog 22 #[.pointer (some ⟨s,0,none⟩),.slice A n c] w (DecO l n b w):=by
 have y1:=Z0b w (.cells #[.slice A n c,.int .i64 0,.bool false] 135)
 have HB:=heap_alloc_new w (.cells #[.slice A n c,.int .i64 0,.bool false] 135)
 have R1:Hid (RS (w.alloc (.cells #[.slice A n c,.int .i64 0,.bool false] 135)) w.heap.size A n c b 0 false):=hid ⟨HB,h.below y1 (Nat.le_refl _),hn,hc,hu,hb,Nat.zero_le _⟩
 have HT1:=hid (Utf8Tabs_below hT y1)
 have SZ:=hid hsz
 have N:=hid hn
 have HS:=hid hS
 have HTT:=hid hT
 have Y1:=hid y1
 clear HB h hu hS hT hsz hn y1
 go_enter Tryz.func22,Tryz.ntmps22
 go_wp2_with (go_at_call 84;refine Hid.out ?_)
 refine hid ?_
 refine (Y3n w.heap.size A n c b 0 false _ R1.out HT1.out).mono ?_
 rintro e w2 ⟨L,x,k2,bad2,rfl,⟨Ax,cx,X,rfl,hX,hXl,hown,hpt⟩,hs2,hg2,ht2⟩
 have Y2:Hid (Below w.heap.size w w2):=hid ⟨hg2.os,hg2.tape,hg2.output,by have:=hg2.size;have:=Y1.out.size;omega,fun j hj=>(hg2.block j (by simp;omega) (fun e:j=w.heap.size=>by omega)).trans (Y1.out.block j hj)⟩
 have S2:=hid hs2
 have T2:=hid ht2
 have HX:=hid hX
 have OW:=hid hown
 have PT:=hid hpt
 obtain ⟨xl,hxl⟩:∃ V,X.length=V:=⟨_,rfl⟩
 have HXL:=hid hxl
 rw [hxl]
 rw [hxl] at hXl
 obtain ⟨r0,r1,r2⟩:=hs2.cells
 have hk2:=hs2.le
 clear hs2 ht2 hg2 hX hown hpt hxl
 cases bad2 with
 | true=>
   have HE:Hid (pX n b=none):=hid (by
    have h1:=T2.out
    unfold Took at h1
    rw [if_neg (by decide),List.drop_zero] at h1
    unfold pX
    cases hp:sev n (pO n) b with
    | none=>rfl
    | some z=>rw [hp] at h1;obtain ⟨_,h2,_⟩:=h1;cases h2)
   go_wp2_with (fail)
   refine bodyPost_ret (v:=.tuple #[.slice none 0 0,.int .i64 3]) (by simp [results,Tryz.results22,go_sem]) rfl ?_
   exact ⟨Y2.out,.inl ⟨3,by decide,rfl,fun X' h1=>by rw [HE.out] at h1;cases h1⟩⟩
 | false=>
   have HP:Hid (pX n b=some (osOf X,b.drop k2)):=hid (by
    have h1:=T2.out
    unfold Took at h1
    rw [if_neg (by decide),List.drop_zero] at h1
    unfold pX
    cases hp:sev n (pO n) b with
    | none=>rw [hp] at h1;cases h1
    | some z=>
      rw [hp] at h1
      obtain ⟨h2,_,h3⟩:=h1
      rw [h3,HX.out,←h2])
   by_cases hkn:k2=n
   ·have kb:((k2:Int) != (n:Int))=false:=by rw [hkn];simp
    have HP2:Hid (pX n b=some (osOf X,[])):=hid (by rw [HP.out,List.drop_of_length_le (by rw [←N.out];omega)])
    have SZX:=hid (SZ.out X HP2.out)
    have XB:Hid (X.length≤400000):=hid (Nat.le_trans (Z2D X) SZX.out)
    have RDX:Hid (RdOp w2 w2.heap.size Ax X):=hid ⟨OW.out.rd OpS.enc_len,fun z hz=>⟨(PT.out z hz).1.1.rd Z1d,(PT.out z hz).1.2.1.rd At.enc_len,(PT.out z hz).1.2.2.rd Ch.enc_len⟩⟩
    have OKX:Hid (∀ o∈X,okOp o.o):=hid (fun z hz=>Y7z (PT.out z hz).2)
    have OC:Hid (OpsC w2 Ax X.length cx X):=hid ⟨⟨RDX.out,rfl,OKX.out,by have:=XB.out;omega⟩,(Z2E OW.out).1,(Z2E OW.out).2,fun z hz=>⟨Z2E (PT.out z hz).1.1,Z2E (PT.out z hz).1.2.1,Z2E (PT.out z hz).1.2.2⟩⟩
    have HT2:=hid (Utf8Tabs_below HTT.out Y2.out)
    have HS2:=hid (HS.out.ext Y2.out)
    obtain ⟨m,hm⟩:∃ V,mayO l X=V:=⟨_,rfl⟩
    have HM:=hid hm
    clear hkn hm r0
    go_wp2_with (go_at_call 86;refine Hid.out ?_)
    refine hid ?_
    refine (Z5v s l Ax xl cx X _ HXL.out.symm RDX.out (by have:=XB.out;have:=HXL.out;omega) HS2.out OKX.out HT2.out).mono ?_
    rw [HM.out]
    rintro e w3 ⟨rfl,y3⟩
    have Y3:=hid (Z0a Y2.out y3)
    have OC3:=hid (OC.out.ext y3)
    clear y3
    by_cases m3:m=3
    ·subst m3
     go_wp2_with (fail)
     refine bodyPost_ret (v:=.tuple #[.slice none 0 0,.int .i64 3]) (by simp [results,Tryz.results22,go_sem]) rfl ?_
     exact ⟨Y3.out,.inl ⟨3,by decide,rfl,fun X' h1 h2=>by
      rw [HP2.out] at h1
      injection h1 with h1
      injection h1 with h1 _
      rw [Y1f h1.symm,HM.out] at h2
      cases h2⟩⟩
    ·have m3b:(m==3)=false:=beq_eq_false_iff_ne.2 m3
     have NE:=hid (Z2i (l:=l) (x:=X) (by rw [HM.out];exact m3) (by have:=XB.out;omega))
     have L64:Hid (∀ o∈X,o.o.s.length≤1000000∧o.o.p.length≤1000000):=hid (fun o ho=>by
      have h1:=(Z92 (l:=l) (x:=X) (by rw [HM.out];exact m3)).1 o ho
      have h2:=Y34 h1 (NE.out.1 o ho)
      omega)
     obtain ⟨d,hd⟩:∃ V,decide (mkU (Z0i (osOf X))=osOf X)=V:=⟨_,rfl⟩
     have HD:=hid hd
     have M3:=hid m3
     clear m3 hd
     have KEY:=hid (Z7e OC3.out.at_ NE.out.1 SZX.out L64.out (by have:=NE.out.2.1;omega) HD.out (c:=cx))
     rw [HXL.out] at KEY
     go_wp2_with (go_at_call 24;refine Hid.out ?_)
     refine hid ?_
     refine KEY.out.mono ?_
     rintro e w4 ⟨rfl,y4⟩
     have Y4:=hid (Z0a Y3.out y4)
     have OC4:=hid (OC3.out.ext y4)
     clear y4
     cases d with
     | false=>
       go_wp2_with (fail)
       refine bodyPost_ret (v:=.tuple #[.slice none 0 0,.int .i64 3]) (by simp [results,Tryz.results22,go_sem]) rfl ?_
       exact ⟨Y4.out,.inl ⟨3,by decide,rfl,fun X' h1 h2=>by
        rw [HP2.out] at h1
        injection h1 with h1
        injection h1 with h1 _
        rw [←h1]
        exact of_decide_eq_false HD.out⟩⟩
     | true=>
       by_cases m0:m=0
       ·subst m0
        go_wp2_with (fail)
        refine bodyPost_ret (v:=.tuple #[.slice Ax xl cx,.int .i64 0]) (by simp [results,Tryz.results22,go_sem]) rfl ?_
        exact ⟨Y4.out,.inr ⟨Ax,cx,X,by rw [HXL.out],OC4.out,HP2.out,HM.out,of_decide_eq_true HD.out⟩⟩
       ·have m0b:(m != 0)=true:=by rw [bne,beq_eq_false_iff_ne.2 m0];rfl
        have m0c:(m==0)=false:=beq_eq_false_iff_ne.2 m0
        have M0:=hid m0
        clear m0
        go_wp2_with (fail)
        refine bodyPost_ret (v:=.tuple #[.slice none 0 0,.int .i64 m]) (by simp [results,Tryz.results22,go_sem]) rfl ?_
        exact ⟨Y4.out,.inl ⟨m,M0.out,rfl,fun X' h1 h2=>by
         rw [HP2.out] at h1
         injection h1 with h1
         injection h1 with h1 _
         rw [Y1f h1.symm,HM.out] at h2
         exact absurd h2 M0.out⟩⟩
   ·have kb:((k2:Int) != (n:Int))=true:=by
     have h1:((k2:Int)==(n:Int))=false:=beq_eq_false_iff_ne.2 (by omega)
     rw [bne,h1];rfl
    have kb2:((k2:Int)==(n:Int))=false:=beq_eq_false_iff_ne.2 (by omega)
    have HE:Hid (∀ X':List OpS,pX n b≠some (osOf X',[])):=hid (fun X' h1=>by
     rw [HP.out] at h1
     injection h1 with h1
     injection h1 with _ h2
     have:=congrArg List.length h2
     rw [List.length_drop,←N.out] at this
     simp at this
     omega)
    clear hkn
    go_wp2_with (fail)
    refine bodyPost_ret (v:=.tuple #[.slice none 0 0,.int .i64 3]) (by simp [results,Tryz.results22,go_sem]) rfl ?_
    exact ⟨Y2.out,.inl ⟨3,by decide,rfl,fun X' h1=>absurd h1 (HE.out X')⟩⟩
theorem Y2o {o:Opd} (h:o.k=2):Z0l o=o.r.map (fun r=>Un.ins r o.s):=by unfold Z0l;rw [if_pos h]
theorem Y2p {o:Opd} (h:o.k=1):Z0l o=List.replicate (Z0l o).length (.ret o.p):=by
 have e:Z0l o=List.replicate o.n.toNat (.ret o.p):=by unfold Z0l;rw [if_neg (by rw [h];decide),if_pos h]
 rw [e,List.length_replicate]
theorem Z81 (x:OpS) (t:List OpS):Z0i (osOf (x::t))=Z0l x.o++Z0i (osOf t):=rfl
def Z1u:List Un→List Int
 | []=>[]
 | .ins r _::us=>r::Z1u us
 | _::us=>Z1u us
def Z1r:List Un→Nat
 | []=>0
 | .del::us=>Z1r us+1
 | _::us=>Z1r us
theorem Z1n (a b:List Un):Z1u (a++b)=Z1u a++Z1u b:=by
 induction a with
 | nil=>rfl
 | cons u a ih=>cases u<;>simp [Z1u,ih]
theorem Z1B (a b:List Un):Z1r (a++b)=Z1r a+Z1r b:=by
 induction a with
 | nil=>simp [Z1r]
 | cons u a ih=>cases u<;>simp [Z1r,ih]<;>omega
theorem Z6w (k:Nat) (p:List Ch):Z1u (List.replicate k (.ret p))=[]:=by induction k with|zero=>rfl|succ k ih=>rw [List.replicate_succ];exact ih
theorem Z33 (k:Nat):Z1u (List.replicate k .del)=[]:=by induction k with|zero=>rfl|succ k ih=>rw [List.replicate_succ];exact ih
theorem Z7f (k:Nat) (p:List Ch):Z1r (List.replicate k (.ret p))=0:=by induction k with|zero=>rfl|succ k ih=>rw [List.replicate_succ];exact ih
theorem Z4U (k:Nat):Z1r (List.replicate k .del)=k:=by
 induction k with
 | zero=>rfl
 | succ k ih=>rw [List.replicate_succ];show Z1r _+1=_;rw [ih]
theorem Y2q (r:List Int) (s:List At):Z1u (r.map (fun r=>Un.ins r s))=r:=by
 induction r with
 | nil=>rfl
 | cons a r ih=>show a::Z1u _=_;rw [ih]
theorem Y35 (r:List Int) (s:List At):Z1r (r.map (fun r=>Un.ins r s))=0:=by
 induction r with
 | nil=>rfl
 | cons a r ih=>exact ih
theorem Z5B:∀ (us I:List Un) (g:Nat),Z1u (cn us I g)=Z1u I++Z1u us∧Z1r (cn us I g)=Z1r I+g+Z1r us
 | [],I,g=>by rw [cn,Z1n,Z1B,Z33,Z4U];exact ⟨rfl,rfl⟩
 | .ins r s::us,I,g=>by
   obtain ⟨h1,h2⟩:=Z5B us (I++[.ins r s]) g
   rw [cn,h1,h2,Z1n,Z1B]
   refine ⟨by simp [Z1u],?_⟩
   show Z1r I+0+g+Z1r us=Z1r I+g+Z1r us
   omega
 | .del::us,I,g=>by
   obtain ⟨h1,h2⟩:=Z5B us I (g+1)
   rw [cn,h1,h2]
   refine ⟨rfl,?_⟩
   show _=Z1r I+g+(Z1r us+1)
   omega
 | .ret p::us,I,g=>by
   obtain ⟨h1,h2⟩:=Z5B us [] 0
   rw [cn,Z1n,Z1n,Z1B,Z1B,Z33,Z4U]
   refine ⟨?_,?_⟩
   ·show Z1u I++[]++Z1u (cn us [] 0)=_
    rw [h1,List.append_nil];rfl
   ·show Z1r I+g+Z1r (cn us [] 0)=Z1r I+g+Z1r us
    rw [h2]
    show Z1r I+g+(0+0+Z1r us)=_
    omega
theorem Y5U (us:List Un):Z1u (nf us)=Z1u us∧Z1r (nf us)=Z1r us:=by
 obtain ⟨k,hk⟩:=Z5y (Z1C us)
 obtain ⟨h1,h2⟩:=Z5B us [] 0
 have h1':Z1u (Z1C us)=Z1u us:=h1
 have h2':Z1r (Z1C us)=Z1r us:=by show Z1r (cn us [] 0)=_;rw [h2];show 0+0+Z1r us=_;omega
 rw [hk,Z1n,Z6w,List.append_nil] at h1'
 rw [hk,Z1B,Z7f] at h2'
 exact ⟨h1',h2'⟩
theorem Z6x:∀ (x:List OpS),(∀ o∈x,isOp o.o)→Z1u (Z0i (osOf x))=x.flatMap (fun o=>o.o.r)∧(Z1r (Z0i (osOf x)):Int)=(x.map (fun o=>if o.o.k=3 then o.o.n else 0)).sum
 | [],_=>⟨rfl,rfl⟩
 | o::x,h=>by
   obtain ⟨h1,h2⟩:=Z6x x (fun z hz=>h z (List.mem_cons_of_mem _ hz))
   have ho:=h o (by simp)
   rw [Z81,Z1n,Z1B,List.flatMap_cons,List.map_cons,List.sum_cons,h1]
   rcases Z0H ho with k|k|k
   ·obtain ⟨e,_⟩:=Z10 ho k
    have e1:=Y2o k
    rw [e1,Y2q,Y35,if_neg (by rw [k];decide)]
    exact ⟨rfl,by omega⟩
   ·obtain ⟨e,hn⟩:=Z3e ho k
    have e1:Z0l o.o=List.replicate o.o.n.toNat .del:=by unfold Z0l;rw [if_neg (by rw [k];decide),if_neg (by rw [k];decide)]
    have er:o.o.r=[]:=by rw [e];rfl
    rw [e1,Z33,Z4U,if_pos k,er]
    exact ⟨rfl,by omega⟩
   ·obtain ⟨e,hn⟩:=Z2t ho k
    have e1:=Y2p k
    have er:o.o.r=[]:=by rw [e];rfl
    rw [e1,Z6w,Z7f,if_neg (by rw [k];decide),er]
    exact ⟨rfl,by omega⟩
theorem of_is {x:List Opd} (h:∀ o∈x,isOp o) (hb:(Z0i x).length≤4000000000):Z1j (ofM x)=mkU (Z0i x):=by
 have ht:=Z6t x Told.new h (by simpa using hb)
 rw [List.nil_append] at ht
 exact Z4r ht
theorem Z6y:∀ (x:List OpS),szN x=x.length+(x.flatMap (fun o=>o.o.r)).length
 | []=>rfl
 | o::x=>by rw [Z14,Z6y x,List.flatMap_cons,List.length_append,List.length_cons];omega
theorem Y5V {x z:List OpS} {S:Nat} (hi:∀ o∈x,isOp o.o) (hz:osOf z=mkU (Z0i (osOf x))) (hl:(Z0i (osOf x)).length≤4000000000) (hs:∀ o∈x,o.o.s.length≤S∧o.o.p.length≤S):szN z≤3*szN x+1:=by
 have h0:osOf z=Z1j (ofM (osOf x)):=hz.trans (of_is (by unfold osOf;intro o ho;obtain ⟨y,hy,rfl⟩:=List.mem_map.1 ho;exact hi y hy) hl).symm
 have h1:=(Z3M x hs).ops.1
 rw [←h0] at h1
 unfold osOf at h1
 rw [List.length_map] at h1
 have h2:=(Z6x z (Z71 hz)).1
 rw [Z2R hz,(Y5U _).1,(Z6x x hi).1] at h2
 rw [Z6y z,←h2]
 have:=Z6y x
 omega
theorem Y5W (us:List Un):Z0q (nf us)≤Z0q us:=by
 obtain ⟨k,hk⟩:=Z5y (Z1C us)
 have h1:=congrArg Z0q hk
 rw [Z0V,Z6h] at h1
 show Z0q (trim (Z1C us))≤_
 omega
theorem Y36 {v:V} (h:mayV v=true) (hv:okV v):(wV v).length≤90:=by
 obtain ⟨f1,f2,f3⟩:=Z6u h hv
 have hk:=f1.k
 rw [Z8n,List.length_append]
 have h1:(uv v.k.toNat).length≤10:=Z1g (by omega)
 obtain ⟨v1,v2,v3,v4,v5,v6⟩:=hv
 unfold wVt
 split
 ·have:=Z1g (Z8c v3 v4);omega
 ·split
  ·have:(uv v.f.toNat).length≤10:=Z1g (by omega)
   omega
  ·split
   ·have:(uv (strI v.s).length).length≤10:=Z1g (by rw [Z1l];omega)
    rw [wB,List.length_append,Z1l]
    rw [Z1l] at this
    omega
   ·simp;omega
theorem Z34 {α:Type} {f:α→List Int} {k:Nat}:∀ {l:List α},(∀ a∈l,(f a).length≤k)→(l.flatMap f).length≤l.length*k
 | [],_=>Nat.zero_le _
 | a::l,h=>by
   rw [List.flatMap_cons,List.length_append,List.length_cons,Nat.add_mul,Nat.one_mul]
   have:=h a (by simp)
   have:=Z34 (fun b hb=>h b (List.mem_cons_of_mem _ hb))
   omega
theorem Y8E {l:List Ky} (hl:Z4p l) {o:Opd} (h:oneP l o=0) (hv:okOp o):(wO o).length≤6600*(1+o.r.length):=by
 obtain ⟨h1,h2,h3,h4,h5⟩:=Z1U h
 have hi:=Z3B h
 obtain ⟨_,hw⟩:=Z93 hl h hv (Nat.le_refl _)
 obtain ⟨l1,l2⟩:=Y34 (l:=l) (o:=o) (by rw [h];decide) hi
 obtain ⟨p1,p2,p3,p4⟩:=Z2d h4
 have hq:o.p.all okC=true:=by
  unfold mayP at h5
  split at h5
  ·cases h5
  ·split at h5
   ·rename_i hh;exact hh.2
   ·cases h5
 have bs:(wL wAt o.s).length≤6420:=by
  have h6:(o.s.flatMap wAt).length≤o.s.length*100:=Z34 (fun a ha=>by
   have:=Y36 (p3 a ha) (hv.1 a ha)
   have hk:=(hw.2.2.2.2.2.1 a ha)
   have:(uv a.key.toNat).length≤10:=Z1g (by have:=hk.1;have:=hk.2.1;omega)
   unfold wAt
   rw [List.length_append]
   omega)
  have:(uv o.s.length).length≤10:=Z1g (by omega)
  unfold wL
  rw [List.length_append]
  omega
 have bp:(wL wCh o.p).length≤6420:=by
  have h6:(o.p.flatMap wCh).length≤o.p.length*100:=Z34 (fun c hc=>by
   have hk:=(hw.2.2.2.2.2.2.1 c hc)
   have hu:(uv c.key.toNat).length≤10:=Z1g (by have:=hk.1;have:=hk.2.1;omega)
   unfold wCh
   rw [List.length_append]
   split
   ·have:(uv 0).length≤10:=Z1g (by decide)
    omega
   ·rename_i hg
    have h7:=List.all_eq_true.1 hq c hc
    unfold okC at h7
    rw [if_neg hg] at h7
    have:=Y36 h7 (hv.2.1 c hc).1
    omega)
  have:(uv o.p.length).length≤10:=Z1g (by omega)
  unfold wL
  rw [List.length_append]
  omega
 obtain ⟨g1,g2,g3,g4,g5,_⟩:=hw
 have u1:(uv o.k.toNat).length≤10:=Z1g (by omega)
 have u2:(uv o.n.toNat).length≤10:=Z1g (by omega)
 have br:(wB (Z0D o.r)).length≤10+4*o.r.length:=by
  have:=Z6T o.r
  have hr:=hv.2.2.1
  have:(uv (Z0D o.r).length).length≤10:=Z1g (by omega)
  unfold wB
  rw [List.length_append]
  omega
 unfold wO
 rw [List.length_append]
 split
 ·rw [List.length_append];omega
 ·split
  ·rw [List.length_append];omega
  ·split
   ·omega
   ·simp;omega
theorem Y37 {l:List Ky} (hl:Z4p l):∀ {z:List OpS},(∀ o∈z,oneP l o.o=0)→(∀ o∈z,okOp o.o)→((osOf z).flatMap wO).length≤6600*szN z
 | [],_,_=>Nat.zero_le _
 | o::z,h,hv=>by
   show ((o.o::osOf z).flatMap wO).length≤_
   rw [List.flatMap_cons,List.length_append,Z14]
   have h1:=Y8E hl (h o (by simp)) (hv o (by simp))
   have h2:=Y37 hl (fun x hx=>h x (List.mem_cons_of_mem _ hx)) (fun x hx=>hv x (List.mem_cons_of_mem _ hx))
   omega
theorem Y6K {l:List Ky} {x z:List OpS} (hm:mayO l x=0) (hb:x.length≤1048576) (hz:osOf z=mkU (Z0i (osOf x))) (hzb:z.length≤1048576):mayO l z=0∧goodO l z:=by
 obtain ⟨g1,t1,t2⟩:=Z1s hm
 have hi:=Z03 g1
 obtain ⟨_,_,n3,n4⟩:=Z2i (l:=l) (x:=x) (by rw [hm];decide) hb
 have hmu:∀ u∈Z0i (osOf x),mU l u:=fun u hu=>by
  obtain ⟨o,ho,hu2⟩:=Z1t.1 hu
  exact (Z9X.1 (g1 o ho)).2.2 u hu2
 have h0:=Y19 hzb (Z71 hz) (by rw [Z2R hz];exact Y6G (P:=mU l) trivial hmu) (by rw [Z2R hz];have:=Y5r (Z0i (osOf x));omega) (by rw [Z2R hz];have:=Y5W (Z0i (osOf x));omega)
 exact ⟨h0,(Z1s h0).1⟩
def EncO (l:List Ky) (x:List OpS) (w:World) (e:Ending) (w':World):Prop:=
 Below w.heap.size w w' ∧
 ((mayO l x≠0∧e=.returned (.tuple #[.slice none 0 0,.int .i64 (mayO l x)])) ∨
  (mayO l x=0∧∃ A c,e=.returned (.tuple #[.slice A (wX (mkU (Z0i (osOf x)))).length c,.int .i64 0])∧(wX (mkU (Z0i (osOf x)))).length≤c∧RdU8 w' w'.heap.size A (wX (mkU (Z0i (osOf x))))∧(wX (mkU (Z0i (osOf x)))).length≤90000000))
theorem Z2S (s:Nat) (l:List Ky) (A:Option Addr) (n c:Nat) (x:List OpS) (w:World) (hx:OpsAt w A n x) (hS:Sch w s l) (hT:Utf8Tabs 0 1 w) (hl:Z4p l) (hz:szN x≤20000) (hzn:mayO l x=0→∀ z:List OpS,osOf z=mkU (Z0i (osOf x))→szN z≤13000) :
 Calls Tryz.prog 23 #[.pointer (some ⟨s,0,none⟩),.slice A n c] w (EncO l x w):=by
 have XB:x.length≤20000:=Nat.le_trans (Z2D x) hz
 obtain ⟨m,hm⟩:∃ V,mayO l x=V:=⟨_,rfl⟩
 have HM:=hid hm
 have HX:=hid hx
 have SZ:=hid hz
 have SZN:=hid hzn
 have KEY:=hid (Z5v s l A n c x w hx.len hx.rd (by have:=hx.b;omega) hS hx.ok hT)
 rw [hm] at KEY
 unfold EncO
 rw [hm]
 clear hm hx hz hS hT hzn
 by_cases m0:m=0
 rotate_left
 ·have m0b:(m != 0)=true:=by rw [bne,beq_eq_false_iff_ne.2 m0];rfl
  have m0c:(m==0)=false:=beq_eq_false_iff_ne.2 m0
  have M0:=hid m0
  clear m0
  go_enter Tryz.func23,Tryz.ntmps23
  go_wp2_with (go_at_call 86;refine Hid.out ?_)
  refine hid ?_
  refine KEY.out.mono ?_
  rintro e w1 ⟨rfl,y1⟩
  have Y1:=hid y1
  clear y1
  go_wp2_with (fail)
  refine bodyPost_ret (v:=.tuple #[.slice none 0 0,.int .i64 m]) (by simp [results,Tryz.results23,go_sem]) rfl ?_
  exact ⟨Y1.out,.inl ⟨M0.out,rfl⟩⟩
 subst m0
 obtain ⟨g1,_,_⟩:=Z1s HM.out
 have hi:=Z03 g1
 have L64:∀ o∈x,o.o.s.length≤64∧o.o.p.length≤64:=fun o ho=>Y34 (by rw [g1 o ho];decide) (hi o ho)
 obtain ⟨_,n2,_,_⟩:=Z2i (l:=l) (x:=x) (by rw [HM.out];decide) (by omega)
 have HU:Hid ((Z0i (osOf x)).length≤4000000000):=hid (by omega)
 have HI:=hid hi
 have HL64:=hid L64
 obtain ⟨B,hB⟩:∃ V,wX (mkU (Z0i (osOf x)))=V:=⟨_,rfl⟩
 have HBB:=hid hB
 rw [hB]
 have HK:=hid hl
 clear g1 hi L64 n2 hB hl
 go_enter Tryz.func23,Tryz.ntmps23
 go_wp2_with (go_at_call 86;refine Hid.out ?_)
 refine hid ?_
 refine KEY.out.mono ?_
 rintro e w1 ⟨rfl,y1⟩
 have y2:=Z0b w1 (.cells #[.slice none 0 0] 141)
 have Y2:Hid (Below w.heap.size w (w1.alloc (.cells #[.slice none 0 0] 141))):=hid (Z0a y1 y2)
 have HX2:=hid (HX.out.ext Y2.out)
 have HBX:=hid (heap_alloc_new w1 (.cells #[.slice none 0 0] 141))
 have Z1:Hid (w.heap.size≤w1.heap.size):=hid y1.size
 clear y1 y2
 have KEY2:=hid (Z32 A n c x _ HX2.out.len HX2.out.rd (by have:=SZ.out;omega) (fun o ho=>by have:=HL64.out o ho;omega))
 go_wp2_with (go_at_call 26;refine Hid.out ?_)
 refine hid ?_
 refine KEY2.out.mono ?_
 rintro e w3 ⟨Az,cz,z,rfl,hzz,hown,hpt,y3⟩
 have ht:=Z5A (osOf x) (fun o ho=>by obtain ⟨q,hq,rfl⟩:=List.mem_map.1 ho;exact HI.out q hq) HU.out
 have hz:osOf z=mkU (Z0i (osOf x)):=hzz.trans (Z4r ht)
 have hb:=Z3M x (fun o ho=>HL64.out o ho)
 have hu:∀ u∈Z0i (osOf x),okUn u:=fun u hu=>by
  obtain ⟨o,ho,hu⟩:=Z1t.1 hu
  exact Z6r (HX.out.ok o ho) u hu
 obtain ⟨ok1,ok2⟩:=Z7Y hzz ht hu hb (by have:=SZ.out;omega) (by omega)
 have hsz:szN z≤13000:=SZN.out HM.out z hz
 have hzl:=Z2D z
 obtain ⟨mz,gz⟩:=Y6K HM.out (by omega) hz (by have:=SZ.out;omega)
 have OKW:Hid (∀ o∈z,Y1T o.o):=hid (fun o ho=>(Z93 HK.out (gz o ho) (ok1 o ho) (Nat.le_refl _)).2)
 have HWX:Hid ((wX (osOf z)).length≤90000000):=hid (by
  have h1:=Y37 HK.out gz ok1
  have h2:(uv (osOf z).length).length≤10:=Z1g (by rw [osOf,List.length_map];have:=SZ.out;omega)
  unfold wX wL
  rw [List.length_append]
  have:=SZ.out
  omega)
 have HZB:Hid (wX (osOf z)=B):=hid (by rw [hz];exact HBB.out)
 have WR:Hid (Wr w3 (fun k=>k=w1.heap.size) w1.heap.size []):=hid ⟨.slice none 0 0,(y3.block _ (by simp)).trans HBX.out,Ow.nil _ _,rfl,fun k hk=>by simp [wb] at hk,fun k hk=>by subst hk;have:=y3.size;simp at this;omega⟩
 have hF:∀ k,k=w1.heap.size→k<(w1.alloc (.cells #[.slice none 0 0] 141)).heap.size:=fun k hk=>by subst hk;simp
 have OF:Hid (OpsF w3 (fun k=>k=w1.heap.size) Az z):=hid (by
  have off:∀ {α:Type} {enc:α→List Value} {size:Nat} {e:TypeId} {A':Option Addr} {n' c':Nat} {l':List α} (hs:∀ a,(enc a).length=size),Ow enc size e w3 (w1.alloc (.cells #[.slice none 0 0] 141)).heap.size (.slice A' n' c') l'→n'=l'.length→OffF (fun k=>k=w1.heap.size) A' n':=fun hs h hn=>
   Ow.offF hs h hn (fun k hk hf=>by have h1:=(h.wb_lt k hk).1;have h2:=hF k hf;omega)
  refine ⟨hown.rd OpS.enc_len,off OpS.enc_len hown rfl,fun o ho=>?_⟩
  obtain ⟨g,hg⟩:=hpt o ho
  exact ⟨⟨hg.1.1.rd Z1d,off Z1d hg.1.1 rfl⟩,⟨hg.2.1.1.rd At.enc_len,off At.enc_len hg.2.1.1 rfl⟩,⟨hg.2.2.1.rd Ch.enc_len,off Ch.enc_len hg.2.2.1 rfl⟩⟩)
 have CR:Hid (∀ o∈z,o.o.r.length≤o.cr):=hid (fun o ho=>by obtain ⟨g,hg⟩:=hpt o ho;exact (Z2E hg.1.1).1)
 have ZL:Hid (z.length≤100000000):=hid (by have:=SZ.out;omega)
 have Y3:=hid (Z0a Y2.out y3)
 have hsz3:=y3.size
 obtain ⟨zl,hzl2⟩:∃ V,z.length=V:=⟨_,rfl⟩
 have HZL:=hid hzl2
 rw [hzl2]
 rw [hzl2] at ZL
 clear hzz hown hpt ht hz hb hu ok1 ok2 hsz hzl mz gz hF hzl2 y3
 go_wp2_with (go_at_call 87;refine Hid.out ?_)
 refine hid ?_
 refine (Y1U w1.heap.size _ [] Az zl cz z _ HZL.out.symm OF.out OKW.out CR.out WR.out (by have:=HWX.out;simp only [List.length_nil];omega) ZL.out).mono ?_
 rintro e w4 ⟨rfl,F4,W4,G4⟩
 rw [List.nil_append,HZB.out] at W4
 rw [HZB.out] at HWX
 obtain ⟨v,c1,hown,_,_,_⟩:=W4
 obtain ⟨A',c',rfl,hc,_⟩:=hown.form
 have r0:w4.cell? ⟨w1.heap.size,0,none⟩=some (.slice A' B.length c'):=by simp [World.cell?,c1]
 have Y4:Hid (Below w.heap.size w w4):=hid ⟨G4.os.trans Y3.out.os,G4.tape.trans Y3.out.tape,G4.output.trans Y3.out.output,by have:=G4.size;have:=Y3.out.size;omega,fun j hj=>(G4.block j (by have:=Y3.out.size;omega) (fun e:j=w1.heap.size=>by have:=Z1.out;omega)).trans (Y3.out.block j hj)⟩
 have RB:=hid (hown.rd Z1Q)
 have HC:=hid hc
 obtain ⟨bl,hbl⟩:∃ V,B.length=V:=⟨_,rfl⟩
 have HBL:=hid hbl
 rw [hbl] at r0
 clear c1 hown hc G4 hbl
 go_wp2_with (fail)
 refine bodyPost_ret (v:=.tuple #[.slice A' bl c',.int .i64 0]) (by simp [results,Tryz.results23,go_sem]) rfl ?_
 exact ⟨Y4.out,.inr ⟨trivial,A',c',by rw [HBL.out],HC.out,RB.out,HWX.out⟩⟩
theorem Z5C {α:Type} {f:α→Bool} {l:List α} {m:Nat} {x:α} {R:Bool} (hd:l.drop m=x::l.drop (m+1)) (h:(l.drop m).all f=R):(f x&&(l.drop (m+1)).all f)=R:=by
 rw [hd] at h;simpa using h
theorem Z28 {A:Option Addr} {nn cc:Nat} {l:List Ky} {id k n f:Int} {t:ByteArray} {w:World} {O:List (Nat×Obj)} {b:Bool} (hT:Utf8Tabs 0 1 w) (hn:nn=l.length) (h:RdKy w w.heap.size A l) (hb:nn≤140737488355328) (h0:0≤f) (h1:f<18446744073709551616) (hsz:t.size≤100000000) (x:GW w O) (hf:Z2o l id ⟨k,n,f,t⟩=b) :
 Calls Tryz.prog 34 #[.slice A nn cc,.int .i64 id,.agg #[.int .u8 k,.int .i64 n,.int .u64 f,.string t]] x.val fun e w'=>e=.returned (.bool b)∧∃ y:GW w O,w'=y.val:=
 Z8F x ((Y3r A nn cc l id k n f t x.val hn (h.ext x.ok.1) hb h0 h1 hsz (Z8G hT x)).mono fun e w' h'=>⟨by rw [h'.1,hf],h'.2⟩)
theorem Z82 (A B:Option Addr) (n c n2 c2:Nat) (l:List Ky) (p:List At) (w:World) (hn:n=l.length) (h:RdKy w w.heap.size A l) (hb:n≤140737488355328) (hn2:n2=p.length) (h2:RdAt w w.heap.size B p) (hb2:n2≤140737488355328) (hv:okVa p) (hT:Utf8Tabs 0 1 w) :
 Calls Tryz.prog 91 #[.slice A n c,.slice B n2 c2] w fun e w'=>e=.returned (.int .i64 (mayS l p))∧Below w.heap.size w w':=by
 have N:=hid hn
 have N2:=hid hn2
 generalize hR:mayS l p=R
 have HR:=hid hR
 clear hn hn2 hR
 go_enter Tryz.func91,Tryz.ntmps91
 go_wp2_with (go_at_call 178;refine Hid.out ?_)
 refine hid ?_
 refine (Z9x B n2 c2 p w N2.out h2 hb2).mono ?_
 rintro e w1 ⟨rfl,d,rfl⟩
 generalize hrr:Z4b p=Q
 have HQ:=hid hrr
 clear hrr
 cases Q with
 | false=>
   go_wp2_with (fail)
   go_ret
   refine ⟨Z0k ?_,Z0m _ _⟩
   rw [←HR.out]
   unfold mayS
   rw [HQ.out]
   by_cases h:64<p.length<;>simp [h]
 | true=>
   by_cases h64:(64:Int)<(n2:Int)
   ·go_wp2_with (fail)
    go_ret
    refine ⟨Z0k ?_,Z0m _ _⟩
    rw [←HR.out]
    unfold mayS
    rw [if_pos (by have:=N2.out;omega)]
   have HP:Hid ((if p.all okA=true then (if p.all (Z05 l)=true then 0 else 4) else 3)=R):=hid (by
    rw [←HR.out]
    unfold mayS
    rw [if_neg (show ¬ (64<p.length) by have:=N2.out;omega),HQ.out]
    simp)
   obtain ⟨R1,hR1⟩:∃ X,p.all okA=X:=⟨_,rfl⟩
   have HR1:=hid hR1
   clear hR1
   go_wp2_with (fail)
   go_loopg [5] n2 (fun g iv wr => ∃ m:Nat,m≤n2∧g=n2-m∧iv=.int .i64 (m:Int)∧Below w.heap.size w wr∧Hid ((p.drop m).all okA=R1))
   case atStart=>exact ⟨0,by omega,rfl,rfl,Z0m _ _,hid (by rw [List.drop_zero];exact HR1.out)⟩
   case round=>
    obtain ⟨m,hm,hg,rfl,y,HI⟩:=hrel
    have HG:=hid hg
    clear hg HR
    by_cases hlt:m<n2
    ·have hl1:m<p.length:=by have:=N2.out;omega
     obtain ⟨ad,x,rfl,had,hd1,hx1,hc0⟩:=(h2.below y (Nat.le_refl _)).el hl1
     have hxv:=hv x (List.mem_of_getElem? hx1)
     have HI2:=hid (Z5C hd1 HI.out)
     obtain ⟨x1,x2,x3,x4,x5⟩:=x
     obtain ⟨r0,r1,r2,r3,r4⟩:=Z0P hc0
     obtain ⟨f0,f1⟩:0≤x4∧x4<18446744073709551616:=⟨hxv.1.f0,hxv.1.f1⟩
     have hsz:x5.size≤100000000:=hxv.2
     clear hc0 hd1 hx1 hxv HI
     have hw2:IntKind.i64.wrap ((m:Int)+1)=(m:Int)+1:=IntWalk.i64_in _ (by omega)
     go_wp2_with (go_at_call 32;refine Hid.out ?_)
     refine hid ?_
     refine (Z30 x2 x3 x4 x5 _ f0 f1 hsz ?tb).mono ?_
     case tb=>exact Z4G hT y rfl
     rintro e w6 ⟨rfl,y6⟩
     have HOK:Hid (okA ⟨x1,x2,x3,x4,x5⟩=mayV ⟨x2,x3,x4,x5⟩):=hid rfl
     generalize mayV ⟨x2,x3,x4,x5⟩=M at HOK ⊢
     have yy6:=Z2r y y6 rfl rfl rfl rfl
     cases M with
     | false=>
       have HF:Hid (p.all okA=false):=hid (by rw [HR1.out,←HI2.out,HOK.out];rfl)
       go_wp2_with (fail)
       go_ret
       exact ⟨Z0k (by rw [←HP.out,HF.out];rfl),yy6⟩
     | true=>
       go_wp2_with (fail)
       go_roundg (n2-(m+1))
       case measure=>have:=HG.out;omega
       case rel=>exact ⟨m+1,by omega,rfl,by go_num,yy6,hid (by rw [←HI2.out,HOK.out,Bool.true_and])⟩
    ·have HF:Hid (p.all okA=true):=hid (by rw [HR1.out,←HI.out,List.drop_eq_nil_of_le (by have:=N2.out;omega)];rfl)
     clear HI HR1
     obtain ⟨R2,hR2⟩:∃ X,p.all (Z05 l)=X:=⟨_,rfl⟩
     have HR2:=hid hR2
     clear hR2
     go_wp2_with (fail)
     go_loopg [6] n2 (fun g iv wr => ∃ m:Nat,m≤n2∧g=n2-m∧iv=.int .i64 (m:Int)∧Below w.heap.size w wr∧Hid ((p.drop m).all (Z05 l)=R2))
     case atStart=>exact ⟨0,by omega,rfl,rfl,y,hid (by rw [List.drop_zero];exact HR2.out)⟩
     case round=>
      obtain ⟨m,hm,hg,rfl,y,HI⟩:=hrel
      have HG:=hid hg
      clear hg
      by_cases hlt:m<n2
      ·have hl1:m<p.length:=by have:=N2.out;omega
       obtain ⟨ad,x,rfl,had,hd1,hx1,hcw⟩:=h2.el hl1
       have hxv:=hv x (List.mem_of_getElem? hx1)
       have HI2:=hid (Z5C hd1 HI.out)
       obtain ⟨x1,x2,x3,x4,x5⟩:=x
       have HCW:=hid hcw
       obtain ⟨f0,f1⟩:0≤x4∧x4<18446744073709551616:=⟨hxv.1.f0,hxv.1.f1⟩
       have hsz:x5.size≤100000000:=hxv.2
       clear hd1 hx1 hxv HI hcw
       have hw2:IntKind.i64.wrap ((m:Int)+1)=(m:Int)+1:=IntWalk.i64_in _ (by omega)
       have gg:GoodB w [] wr:=⟨y,by intro p hp;cases hp⟩
       have hx:∀ x:GW w [],CellsAt x.val (ad.add (m*5)) (At.enc ⟨x1,x2,x3,x4,x5⟩):=fun x=>HCW.out.keep fun q hq=>x.ok.1.cell (by rw [hq,Z0R];exact had)
       have r0:∀ x:GW w [],_:=fun x=>(Z0P (hx x)).1
       have r1:∀ x:GW w [],_:=fun x=>(Z0P (hx x)).2.1
       have r2:∀ x:GW w [],_:=fun x=>(Z0P (hx x)).2.2.1
       have r3:∀ x:GW w [],_:=fun x=>(Z0P (hx x)).2.2.2.1
       have r4:∀ x:GW w [],_:=fun x=>(Z0P (hx x)).2.2.2.2
       clear hx
       haveI:Nonempty (GW w []):=⟨⟨_,gg⟩⟩
       obtain ⟨FI,hFI⟩:∃ X,Z2o l x1 ⟨x2,x3,x4,x5⟩=X:=⟨_,rfl⟩
       have HFI:=hid hFI
       have HTH:Hid (Z05 l ⟨x1,x2,x3,x4,x5⟩=FI):=hid hFI
       clear hFI
       cases FI with
       | false=>
         go_wp2_with (fail)
         refine Z0u (by kernel_rfl) (by kernel_rfl) gg ?_
         repeat (go_big_quiet_step (first|(go_at_call 34;with_reducible exact Z28 hT N.out h hb f0 f1 hsz _ HFI.out)))
         refine wpQuiet_nil ?_
         intro _ hw'
         obtain ⟨xx,rfl⟩:=hw'
         have yx:=xx.ok.1
         generalize xx.val=w8 at *
         clear r0 r1 r2 r3 r4
         go_wp2_with (fail)
         go_ret
         exact ⟨Z0k (by rw [←HP.out,HF.out,show p.all (Z05 l)=false by rw [HR2.out,←HI2.out,HTH.out];rfl];rfl),yx⟩
       | true=>
         go_wp2_with (fail)
         refine Z0u (by kernel_rfl) (by kernel_rfl) gg ?_
         repeat (go_big_quiet_step (first|(go_at_call 34;with_reducible exact Z28 hT N.out h hb f0 f1 hsz _ HFI.out)))
         refine wpQuiet_nil ?_
         intro _ hw'
         obtain ⟨xx,rfl⟩:=hw'
         have yx:=xx.ok.1
         generalize xx.val=w8 at *
         clear r0 r1 r2 r3 r4
         go_wp2_with (fail)
         go_roundg (n2-(m+1))
         case measure=>have:=HG.out;omega
         case rel=>exact ⟨m+1,by omega,rfl,by go_num,yx,hid (by rw [←HI2.out,HTH.out,Bool.true_and])⟩
      ·have HF2:Hid (p.all (Z05 l)=true):=hid (by rw [HR2.out,←HI.out,List.drop_eq_nil_of_le (by have:=N2.out;omega)];rfl)
       go_wp2_with (fail)
       go_ret
       exact ⟨Z0k (by rw [←HP.out,HF.out,HF2.out];rfl),y⟩
end Go.Proofs.YtnmedachaeanbaaGreatDoor
