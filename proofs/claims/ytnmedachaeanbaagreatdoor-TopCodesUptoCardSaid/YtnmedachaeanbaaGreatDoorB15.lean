/- Merged texts. -/
import Derived.Lib.AppendZerosOnto
import Derived.Lib.Walk
import Derived.Test.YtnmedachaeanbaaGreatDoorB14
namespace Go.Proofs.YtnmedachaeanbaaGreatDoor
set_option maxRecDepth 100000
set_option maxHeartbeats 6400000
open Go.RowKit
open Go.Lib (hid)
set_option linter.unusedVariables false
set_option linter.unusedSimpArgs false
theorem Y1R (n:Nat) (w:World) (hb:n≤100000000000) :
 Calls Tryz.prog 230 #[.slice none 0 0,.int .i64 (n:Int)] w (Y3e [] w):=by
 by_cases h0:n=0
 ·subst h0
  go_enter Tryz.func230,Tryz.ntmps230
  go_wp2_with (fail)
  go_ret
  exact ⟨none,0,rfl,Ow.nil _ _,Below.refl _ _⟩
 ·obtain ⟨i0,hi0,hz0,hz1,hz2⟩:=info_parts Tryz.infoOp
  have hold:(Builtin.firstCells i0.size 0 (.slice none 0 0)).run Tryz.prog w.drew=.ok #[] w.drew:=run_firstCells_none w.drew i0.size 0 0 0
  have hfit:=growslice_fits (need:=n) (old:=0) (bytes:=i0.bytes) (by omega) (by rw [hz2];omega)
  have hrz:=fun ty=>Lib.run_append_grow_zeros w 37 3 ty 36 i0 _ .i64 .i64 Tryz.slOp (by kernel_rfl) hi0 hz0 none 0 0 [] hold n (by omega) (by rw [hz1];omega) (by omega) (by omega) (by rw [hz2];omega) (by simpa using hfit)
  have hge:=grownCap_ge w n 0 36
  have hle:=grownCap_le_maxLen w n 0 36 (by unfold maxLen;omega)
  have hsz:(Value.agg #[.int .u8 0,.int .i64 0,.slice none 0 0,.slice none 0 0,.slice none 0 0]).cells.size=5:=rfl
  simp only [Nat.zero_add] at hrz
  generalize hG:grownCap w n 0 36=G at hrz hge hle
  have hG63:G≤9223372036854775807:=by unfold maxLen at hle;omega
  have hpos:(0:Int)<(n:Int):=by omega
  generalize hcs:(([]:List Value).toArray++Builtin.zeroCells (Value.agg #[.int .u8 0,.int .i64 0,.slice none 0 0,.slice none 0 0,.slice none 0 0]).cells n++Builtin.zeroCells (Value.agg #[.int .u8 0,.int .i64 0,.slice none 0 0,.slice none 0 0,.slice none 0 0]).cells (G-n))=cs at hrz
  have hcsz:cs.size=G*5:=by
   rw [←hcs]
   simp only [Array.size_append,size_zeroCells,hsz]
   simp
   omega
  have HC:=hid hcsz
  have HLE:=hid hle
  clear hcs hcsz hG hold hi0 hz0 hz1 hz2 hsz hle hfit
  go_enter Tryz.func230,Tryz.ntmps230
  go_wp2_with (at_builtin;refine Lib.wpList_append_run _ rfl _ _ _ _ rfl _ _ rfl rfl _ _ (hrz _) ?_)
  go_ret
  refine ⟨some ⟨w.heap.size,0,none⟩,G,rfl,.inr ⟨rfl,.inr ⟨w.heap.size,G,cs,rfl,Nat.le_refl _,?_,Nat.zero_le _,HLE.out,HC.out,by simp⟩⟩,(Z0m w 1).alloc (Nat.le_refl _) _⟩
  exact heap_alloc_new w.drew _
structure RwS where
 A:Option Addr
 l:List OpS
 c:Nat
def RwS.enc (x:RwS):List Value:=[.slice x.A x.l.length x.c]
def catR (rs:List RwS) (i:Nat):List OpS:=(rs.take i).flatMap (fun x=>x.l)
theorem Z6e {rs:List RwS} {i:Nat} {x:RwS} (h:rs[i]? = some x):catR rs (i+1)=catR rs i++x.l:=by
 unfold catR
 rw [List.take_add_one,h,List.flatMap_append]
 simp
theorem Y5h {rs:List RwS} (h:∀ x∈rs,x.l.length≤20000001) (i:Nat):(catR rs i).length≤i*20000001:=by
 induction i with
 | zero=>simp [catR]
 | succ i ih=>
   cases hx:rs[i]? with
   | none=>
     have e:catR rs (i+1)=catR rs i:=by unfold catR;rw [List.take_add_one,hx];simp
     have e2:=congrArg List.length e
     omega
   | some x=>
     have e2:=congrArg List.length (Z6e hx)
     rw [List.length_append] at e2
     have:=h x (List.mem_of_getElem? hx)
     omega
theorem Y5i (rs:List RwS) (n:Nat) (h:n=rs.length):catR rs n=rs.flatMap (fun x=>x.l):=by
 subst h;unfold catR;rw [List.take_length]
theorem Z2x (A:Option Addr) (n c:Nat) (rs:List RwS) (w:World) (hn:n=rs.length) (h:Rd RwS.enc 1 w w.heap.size A rs) (hr:∀ x∈rs,RdOs w w.heap.size x.A x.l) (hb:n≤1000) (hs:∀ x∈rs,x.l.length≤20000001) :
 Calls Tryz.prog 147 #[.slice A n c] w (Y3e (rs.flatMap (fun x=>x.l)) w):=by
 have N:=hid hn
 have HS:=hid (fun i=>Y5h hs i)
 have HS1:=hid hs
 have HA:=hid (Y5i rs n hn)
 clear hn hs
 go_enter Tryz.func147,Tryz.ntmps147
 go_wp2_with (fail)
 go_loopg [3,11] n (fun g sv iv wr => ∃ m:Nat,m≤n∧g=n-m∧sv=.int .i64 ((catR rs m).length:Int)∧iv=.int .i64 (m:Int)∧Below w.heap.size w wr)
 case atStart=>exact ⟨0,by omega,rfl,rfl,rfl,Below.refl _ _⟩
 case round=>
  obtain ⟨m,hm,hg,rfl,rfl,y⟩:=hrel
  have HG:=hid hg
  clear hg
  by_cases hlt:m<n
  ·have hl1:m<rs.length:=by have:=N.out;omega
   obtain ⟨ad,x,rfl,had,_,hxi,hc0⟩:=(h.below y (Nat.le_refl _)).el hl1
   have hx1:=HS1.out x (List.mem_of_getElem? hxi)
   have hx2:=HS.out m
   have e:=Z6e hxi
   have E:=hid (show ((catR rs (m+1)).length:Int)=(catR rs m).length+x.l.length by rw [e,List.length_append];omega)
   obtain ⟨xA,xl,xc⟩:=x
   have r0:wr.cell? (ad.add m)=some (.slice xA xl.length xc):=by have:=hc0 0 _ rfl;rwa [Z0n,Nat.mul_one] at this
   have hbnd:((catR rs m).length:Int)+(xl.length:Int)≤1000000000000:=by have:m*20000001≤1000*20000001:=Nat.mul_le_mul_right _ (by omega);simp only at hx1;omega
   generalize (catR rs m).length=S at *
   clear hc0 e hx1 hx2
   have hw1:wrap64 ((S:Int)+(xl.length:Int))=(S:Int)+(xl.length:Int):=by rw [←IntWalk.i64_left,IntWalk.i64_in _ (by omega)]
   have hw2:IntKind.i64.wrap ((m:Int)+1)=(m:Int)+1:=IntWalk.i64_in _ (by omega)
   have hnn:¬ ((S:Int)+(xl.length:Int)<0):=by omega
   go_wp2_with (fail)
   go_roundg (n-(m+1))
   case measure=>have:=HG.out;omega
   case rel=>exact ⟨m+1,by omega,rfl,by rw [E.out],by go_num,y⟩
  ·have hmn:m=n:=by omega
   subst hmn
   have hg0:=HS.out m
   have hbnd:(catR rs m).length≤100000000000:=by have:m*20000001≤1000*20000001:=Nat.mul_le_mul_right _ (by omega);omega
   have HB:=hid hbnd
   clear hg0 hbnd
   go_wp2_with (go_at_call 230;refine Hid.out ?_)
   refine hid ?_
   refine (Y1R (catR rs m).length _ HB.out).mono ?_
   rintro e w1 ⟨A1,k1,rfl,o1,y1⟩
   have Y:=hid (Z0a y y1)
   have O:=hid (o1.base_le y.size)
   clear y1 o1 hlt
   go_wp2_with (fail)
   go_loopg [6,27] m (fun g v iv wr => ∃ q:Nat,q≤m∧g=m-q∧iv=.int .i64 (q:Int)∧OwOs wr w.heap.size v (catR rs q)∧Below w.heap.size w wr)
   case atStart=>exact ⟨0,by omega,rfl,rfl,O.out,Y.out⟩
   case round=>
    obtain ⟨q,hq,hg,rfl,ho,y2⟩:=hrel
    have HG2:=hid hg
    clear hg
    obtain ⟨Aq,cq,rfl,_,_⟩:=ho.form
    by_cases hlt:q<m
    ·have hl1:q<rs.length:=by have:=N.out;omega
     obtain ⟨ad,x,rfl,had,_,hxi,hc0⟩:=(h.below y2 (Nat.le_refl _)).el hl1
     have hx1:=HS1.out x (List.mem_of_getElem? hxi)
     have hx2:=HS.out q
     have hrx:=(hr x (List.mem_of_getElem? hxi)).ext y2
     have e:=hid (Z6e hxi)
     have HO:=hid ho
     obtain ⟨xA,xl,xc⟩:=x
     have r0:wr.cell? (ad.add q)=some (.slice xA xl.length xc):=by have:=hc0 0 _ rfl;rwa [Z0n,Nat.mul_one] at this
     have hw2:IntKind.i64.wrap ((q:Int)+1)=(q:Int)+1:=IntWalk.i64_in _ (by omega)
     have hbnd:=hid (show (catR rs q).length+xl.length≤100000000000 by have:q*20000001≤1000*20000001:=Nat.mul_le_mul_right _ (by omega);simp only at hx1;omega)
     clear hc0 hx1 hx2 ho
     go_wp2_with (at_builtin;refine Y0R (m:=xl) rfl (.tmp 31) (.tmp 32) rfl rfl (by exact HO.out) _ xA xc xl.length rfl rfl (by exact hrx) (by have:=hbnd.out;omega) (by exact y2.size) ?_;intro v' w' hown' hgr hv')
     have s1:=Z3i y2 y2.size HO.out (Nat.le_refl _) hgr
     go_wp2_with (fail)
     go_roundg (m-(q+1))
     case measure=>have:=HG2.out;omega
     case rel=>exact ⟨q+1,by omega,rfl,by go_num,by rw [e.out];exact hown',s1⟩
    ·have hqm:q=m:=by omega
     subst hqm
     have HO:=hid ho
     clear ho
     go_wp2_with (fail)
     go_ret
     rw [HA.out] at *
     exact ⟨Aq,cq,rfl,HO.out,y2⟩
def PartN (w:World) (B g:Nat) (x:OpS):Prop:=
 (Z3k w B (.slice x.Ar x.o.r.length x.cr) x.o.r∧wb (.slice x.Ar x.o.r.length x.cr)≠some g) ∧
 (OwAt w B (.slice x.As x.o.s.length x.cs) x.o.s∧wb (.slice x.As x.o.s.length x.cs)≠some g) ∧
 (OwCh w B (.slice x.Ap x.o.p.length x.cp) x.o.p∧wb (.slice x.Ap x.o.p.length x.cp)≠some g)
theorem PartN.below {w w':World} {B g:Nat} {x:OpS} (h:PartN w B g x) (y:Below w.heap.size w w'):PartN w' B g x:=
 ⟨⟨h.1.1.below y (Nat.le_refl _),h.1.2⟩,⟨h.2.1.1.below y (Nat.le_refl _),h.2.1.2⟩,⟨h.2.2.1.below y (Nat.le_refl _),h.2.2.2⟩⟩
theorem PartN.set {w:World} {B g j:Nat} {u:Value} {x:OpS} (h:PartN w B g x):PartN (w.setCell ⟨g,j,none⟩ u) B g x:=
 ⟨⟨h.1.1.setCell (p:=⟨g,j,none⟩) h.1.2 u,h.1.2⟩,⟨h.2.1.1.setCell (p:=⟨g,j,none⟩) h.2.1.2 u,h.2.1.2⟩,⟨h.2.2.1.setCell (p:=⟨g,j,none⟩) h.2.2.2 u,h.2.2.2⟩⟩
theorem CellsAt.blk {w w':World} {p:Addr} {cs:List Value} (h:CellsAt w p cs) (hb:w'.heap[p.block]? = w.heap[p.block]?):CellsAt w' p cs:=
 h.keep fun q hq=>by simp only [World.cell?];rw [hq,hb]
def NewOps (o:List Opd) (w:World) (e:Ending) (w':World):Prop:=
 ∃ A c l,e=.returned (.slice A l.length c)∧osOf l=o∧OwOs w' w.heap.size (.slice A l.length c) l∧(∀ x∈l,∃ g,PartN w' w.heap.size g x)∧Below w.heap.size w w'
theorem Y1S {w w1:World} {B g n c m:Nat} {D T:List OpS} {x:OpS} {Ar As Ap:Option Addr} {cr cs cp:Nat}
 (ho:OwOs w B (.slice (some ⟨g,0,none⟩) n c) (D++x::T)) (hm:D.length=m) (hD:∀ y∈D,PartN w B g y) (y1:Below w.heap.size w w1)
 (hx:PartN w1 B g { x with Ar:=Ar,cr:=cr,As:=As,cs:=cs,Ap:=Ap,cp:=cp }) :
 let w2:=((w1.setCell ⟨g,m*5+2,none⟩ (.slice Ar x.o.r.length cr)).setCell ⟨g,m*5+3,none⟩ (.slice As x.o.s.length cs)).setCell ⟨g,m*5+4,none⟩ (.slice Ap x.o.p.length cp)
 OwOs w2 B (.slice (some ⟨g,0,none⟩) n c) (D++{ x with Ar:=Ar,cr:=cr,As:=As,cs:=cs,Ap:=Ap,cp:=cp }::T)∧(∀ y∈D++[{ x with Ar:=Ar,cr:=cr,As:=As,cs:=cs,Ap:=Ap,cp:=cp }],PartN w2 B g y):=by
 subst hm
 have a0:=ho.below y1 (Nat.le_refl _)
 have step:∀ (W:World) (x x':OpS) (j:Nat) (u:Value),j<5→x'.enc=x.enc.set j u→OwOs W B (.slice (some ⟨g,0,none⟩) n c) (D++x::T)→OwOs (W.setCell ⟨g,D.length*5+j,none⟩ u) B (.slice (some ⟨g,0,none⟩) n c) (D++x'::T):=by
  intro W x x' j u hj he h
  have:=Ow.setEl OpS.enc_len h (i:=D.length) (j:=j) (u:=u) (a':=x') (by simp) hj (by simpa using he)
  rw [List.set_append_right _ _ (Nat.le_refl _),Nat.sub_self] at this
  exact this
 have a1:=step w1 x { x with Ar:=Ar,cr:=cr } 2 (.slice Ar x.o.r.length cr) (by omega) rfl a0
 have a2:=step _ { x with Ar:=Ar,cr:=cr } { x with Ar:=Ar,cr:=cr,As:=As,cs:=cs } 3 (.slice As x.o.s.length cs) (by omega) rfl a1
 have a3:=step _ { x with Ar:=Ar,cr:=cr,As:=As,cs:=cs } { x with Ar:=Ar,cr:=cr,As:=As,cs:=cs,Ap:=Ap,cp:=cp } 4 (.slice Ap x.o.p.length cp) (by omega) rfl a2
 refine ⟨a3,fun y hy=>?_⟩
 rcases List.mem_append.1 hy with hy|hy
 ·exact ((hD y hy).below y1).set.set.set
 ·simp at hy;subst hy;exact hx.set.set.set
theorem Y3m {w wr w5 w6 w7:World} {g n c m:Nat} {D T:List OpS} {x:OpS} {A5 A6 A7:Option Addr} {k5 k6 k7:Nat} (y:Below w.heap.size w wr) (hg:w.heap.size≤g)
 (ho:OwOs wr w.heap.size (.slice (some ⟨g,0,none⟩) n c) (D++x::T)) (hm:D.length=m) (hD:∀ y∈D,PartN wr w.heap.size g y) (hgl:g<wr.heap.size)
 (o5:Z3k w5 wr.heap.size (.slice A5 x.o.r.length k5) x.o.r) (y5:Below wr.heap.size wr w5)
 (o6:OwAt w6 w5.heap.size (.slice A6 x.o.s.length k6) x.o.s) (y6:Below w5.heap.size w5 w6)
 (o7:OwCh w7 w6.heap.size (.slice A7 x.o.p.length k7) x.o.p) (y7:Below w6.heap.size w6 w7) :
 let w8:=((w7.setCell ⟨g,m*5+2,none⟩ (.slice A5 x.o.r.length k5)).setCell ⟨g,m*5+3,none⟩ (.slice A6 x.o.s.length k6)).setCell ⟨g,m*5+4,none⟩ (.slice A7 x.o.p.length k7)
 OwOs w8 w.heap.size (.slice (some ⟨g,0,none⟩) n c) ((D++[{ x with Ar:=A5,cr:=k5,As:=A6,cs:=k6,Ap:=A7,cp:=k7 }])++T) ∧
  (∀ y∈D++[{ x with Ar:=A5,cr:=k5,As:=A6,cs:=k6,Ap:=A7,cp:=k7 }],∀ b,(some ⟨g,0,none⟩:Option Addr)=some ⟨b,0,none⟩→PartN w8 w.heap.size b y)∧Below w.heap.size w w8:=by
 intro w8
 have sz:=y.size
 have s5:=y5.size
 have s6:=y6.size
 have y67:=Z0a y6 y7
 have y57:=Z0a y5 y67
 have hx:PartN w7 w.heap.size g { x with Ar:=A5,cr:=k5,As:=A6,cs:=k6,Ap:=A7,cp:=k7 }:=
  ⟨⟨(o5.below y67 (Nat.le_refl _)).base_le sz,fun e=>by have:=(o5.wb_lt g e).1;omega⟩,
   ⟨(o6.below y7 (Nat.le_refl _)).base_le (by omega),fun e=>by have:=(o6.wb_lt g e).1;omega⟩,
   ⟨o7.base_le (by omega),fun e=>by have:=(o7.wb_lt g e).1;omega⟩⟩
 have r:=Y1S ho hm hD y57 hx
 refine ⟨by rw [List.append_assoc];exact r.1,fun y hy b hb=>?_,?_⟩
 ·injection hb with hb
  injection hb with hb
  subst hb
  exact r.2 y hy
 ·exact (((Z0a y y57).setCell (p:=⟨g,m*5+2,none⟩) hg _).setCell (p:=⟨g,m*5+3,none⟩) hg _).setCell (p:=⟨g,m*5+4,none⟩) hg _
theorem Z23 (A:Option Addr) (n c:Nat) (l:List OpS) (w:World) (hn:n=l.length) (h:RdOp w w.heap.size A l) (hb:n≤100000000) (hs:∀ x∈l,x.o.r.length≤100000000∧x.o.s.length≤100000000∧x.o.p.length≤100000000) :
 Calls Tryz.prog 148 #[.slice A n c] w (NewOps (osOf l) w):=by
 have N:=hid hn
 have HS:=hid hs
 have HR:=hid h.1
 have HP:=hid h.2
 clear hn hs h
 go_enter Tryz.func148,Tryz.ntmps148
 go_wp2_with (go_at_call 226;refine Hid.out ?_)
 refine hid ?_
 refine (Z57 A n c l w N.out HR.out (by omega)).mono ?_
 rintro e w1 ⟨A1,k1,rfl,o1,y1⟩
 have O1:=hid o1
 have Y1:=hid y1
 have LB:=hid (show l.length≤100000000 by have:=N.out;omega)
 clear o1 y1
 go_wp2_with (fail)
 go_loopg [9] l.length (fun g iv wr => ∃ (m:Nat) (D:List OpS),m≤l.length∧g=l.length-m∧iv=.int .i64 (m:Int)∧D.length=m∧osOf D=osOf (l.take m) ∧
  OwOs wr w.heap.size (.slice A1 l.length k1) (D++l.drop m)∧(∀ x∈D,∀ b,A1=some ⟨b,0,none⟩→PartN wr w.heap.size b x)∧Below w.heap.size w wr)
 case atStart=>exact ⟨0,[],by omega,rfl,rfl,rfl,rfl,O1.out,fun x hx=>(by cases hx),Y1.out⟩
 case round=>
  obtain ⟨m,D,hm,hg,rfl,hD,hDo,ho,hDp,y⟩:=hrel
  have HG:=hid hg
  clear hg
  by_cases hlt:m<l.length
  ·obtain ⟨x,hxi⟩:∃ x,l[m]? = some x:=⟨l[m],by rw [List.getElem?_eq_getElem hlt]⟩
   have hdrop:l.drop m=x::l.drop (m+1):=by
    rw [List.drop_eq_getElem_cons hlt];rw [List.getElem?_eq_getElem hlt] at hxi;injection hxi with hxi;rw [hxi]
   have hxm:=List.mem_of_getElem? hxi
   rw [hdrop] at ho
   have hlen:(D++x::l.drop (m+1)).length=l.length:=by rw [List.length_append,hD,List.length_cons,List.length_drop];omega
   have hi:m<(D++x::l.drop (m+1)).length:=by omega
   obtain ⟨g,cur,hA,hq1,hBg,hgb,hq2,hq3,hq4,hq5⟩:=ho.row (by omega)
   clear hq1 hq2 hq3 hq4 hq5
   subst hA
   obtain ⟨ad,hA2,_,hcx⟩:=(ho.rd OpS.enc_len).at_ hi
   injection hA2 with hA2
   subst hA2
   rw [Z54] at hcx
   have hx:(D++x::l.drop (m+1))[m]=x:=by simp [List.getElem_append_right,hD]
   rw [hx] at hcx
   have hP:=HP.out x hxm
   have p1:=hid (hP.1.ext y)
   have p2:=hid (hP.2.1.ext y)
   have p3:=hid (hP.2.2.ext y)
   have hS:=hid (HS.out x hxm)
   have HDP:=hid (fun y hy=>hDp y hy g rfl:∀ y∈D,PartN wr w.heap.size g y)
   have hglt:=Z0c hgb
   have HT:=hid (show osOf (D++[x])=osOf (l.take (m+1)) by
    rw [List.take_add_one,hxi];unfold osOf at hDo ⊢;rw [List.map_append,List.map_append,hDo];rfl)
   have HO:=hid ho
   have HGB:=hid hgb
   have HCX:=hid hcx
   have HD:=hid hD
   obtain ⟨⟨xk,xn,xr,xs,xp⟩,Ar,cr,As,cs,Ap,cp⟩:=x
   obtain ⟨z0,z1,z2,z3,z4⟩:=Z0r hcx
   have hfr:∀ j,wr.frozen? ⟨g,j,none⟩=false:=fun j=>Z0h hgb j
   have e1:(m:Int)<(l.length:Int):=by omega
   have hw2:IntKind.i64.wrap ((m:Int)+1)=(m:Int)+1:=IntWalk.i64_in _ (by have:=LB.out;omega)
   clear hcx hx ho hDp hP hDo hxi hdrop hgb hD hlen hi hxm
   go_wp2_with (fail)
   go_region_law (first
    | (refine Z0L rfl 138 [.tmp 22] #[33] rfl Tryz.f138 (by kernel_rfl) (by kernel_rfl) (by kernel_rfl) [.slice Ar xr.length cr] (by rfl) (Z3s Ar xr.length cr xr wr.drew rfl (p1.out.ext (Z0U (Below.refl _ _))) hS.out.1) ?_
       rintro e w5 ⟨A5,k5,rfl,o5,y5⟩
       refine ⟨_,rfl,?_⟩
       have O5:=hid o5
       have Y5:Hid (Below wr.heap.size wr w5):=hid ((Z0U (Below.refl _ _)).trans y5)
       obtain ⟨z0a,z1a,z2a,z3a,z4a⟩:=Z0r (HCX.out.blk ((y5.block g hglt)))
       clear o5 y5)
    | (refine Z0L rfl 139 [.tmp 28] #[34] rfl Tryz.f139 (by kernel_rfl) (by kernel_rfl) (by kernel_rfl) [.slice As xs.length cs] (by rfl) (Z4j As xs.length cs xs w5 rfl (p2.out.ext Y5.out) hS.out.2.1) ?_
       rintro e w6 ⟨A6,k6,rfl,o6,y6⟩
       refine ⟨_,rfl,?_⟩
       have O6:=hid o6
       have Y6:=hid y6
       have Y56:=hid (Z0a Y5.out y6)
       obtain ⟨z0b,z1b,z2b,z3b,z4b⟩:=Z0r (HCX.out.blk (Y56.out.block g hglt))
       clear o6 y6)
    | (refine Z0L rfl 142 [.tmp 34] #[24] rfl Tryz.f142 (by kernel_rfl) (by kernel_rfl) (by kernel_rfl) [.slice Ap xp.length cp] (by rfl) (Z4k Ap xp.length cp xp w6 rfl (p3.out.ext Y56.out) hS.out.2.2) ?_
       rintro e w7 ⟨A7,k7,rfl,o7,y7⟩
       refine ⟨_,rfl,?_⟩
       have O7:=hid o7
       have Y7:=hid y7
       have Y57:=hid (Z0a Y56.out y7)
       obtain ⟨z0c,z1c,z2c,z3c,z4c⟩:=Z0r (HCX.out.blk (Y57.out.block g hglt))
       have hf2:w7.frozen? ⟨g,m*5+2,none⟩=false:=Z0h ((Y57.out.block g hglt).trans HGB.out) _
       have hf3:w7.frozen? ⟨g,m*5+3,none⟩=false:=Z0h ((Y57.out.block g hglt).trans HGB.out) _
       have hf4:w7.frozen? ⟨g,m*5+4,none⟩=false:=Z0h ((Y57.out.block g hglt).trans HGB.out) _
       clear o7 y7))
   all_goals go_wp2_with (fail)
   all_goals go_roundg (l.length-(m+1))
   all_goals first
    | (have:=HG.out;omega)
    | (obtain ⟨r1,r2,r3⟩:=Y3m (x:=⟨⟨xk,xn,xr,xs,xp⟩,Ar,cr,As,cs,Ap,cp⟩) y hBg HO.out HD.out HDP.out hglt O5.out Y5.out O6.out Y6.out O7.out Y7.out
       refine ⟨m+1,D++[⟨⟨xk,xn,xr,xs,xp⟩,A5,k5,A6,k6,A7,k7⟩],by omega,rfl,by go_num,by rw [List.length_append,HD.out];rfl,?_,r1,r2,r3⟩
       rw [←HT.out];simp [osOf])
  ·have hml:m=l.length:=by omega
   subst hml
   have HO:=hid ho
   have HDP:=hid hDp
   have HDO:=hid hDo
   have HD:=hid hD
   clear ho hDp hDo hD
   go_wp2_with (fail)
   go_ret
   have hd:l.drop l.length=[]:=by simp
   have ho:=HO.out
   rw [hd,List.append_nil] at ho
   have hl:l.length=D.length:=HD.out.symm
   rw [hl] at ho ⊢
   refine ⟨A1,k1,D,rfl,by rw [HDO.out,List.take_length],ho,fun x hx=>?_,y⟩
   have hpos:0<D.length:=List.length_pos_of_mem hx
   obtain ⟨g,cur,hA,_⟩:=ho.row hpos
   exact ⟨g,HDP.out x hx g hA⟩
def Y1T (o:Opd):Prop:=0≤o.k∧o.k≤255∧0≤o.n∧o.n≤9223372036854775807∧okR o.r=true∧(∀ a∈o.s,Z7D a)∧(∀ c∈o.p,Z7E c)∧o.r.length≤100000000∧o.s.length≤100000000∧o.p.length≤100000000
def OpsF (w:World) (F:Nat→Prop) (A:Option Addr) (x:List OpS):Prop:=Rd OpS.enc 5 w w.heap.size A x∧OffF F A x.length∧∀ o∈x,PartF w F o
theorem OpsF.grow {w w':World} {F G:Nat→Prop} {A:Option Addr} {x:List OpS} (h:OpsF w F A x) (g:Grow w F w' G):OpsF w' G A x:=
 ⟨h.1.grow g h.2.1,h.2.1.grow h.1 g,fun o ho=>(h.2.2 o ho).grow g⟩
theorem Y7f (p:Nat) (F:Nat→Prop) (l:List Int) (k n:Int) (Ar As Ap:Option Addr) (r:List Int) (s:List At) (q:List Ch) (cr cs cp:Nat) (w:World) (hv:Y1T ⟨k,n,r,s,q⟩) (hp:PartF w F ⟨⟨k,n,r,s,q⟩,Ar,cr,As,cs,Ap,cp⟩) (hcr:r.length≤cr) (h:Wr w F p l) (hb:l.length+(wO ⟨k,n,r,s,q⟩).length≤800000000) :
 Calls Tryz.prog 88 #[.pointer (some ⟨p,0,none⟩),.agg #[.int .u8 k,.int .i64 n,.slice Ar r.length cr,.slice As s.length cs,.slice Ap q.length cp]] w (OutW (l++wO ⟨k,n,r,s,q⟩) w F p):=by
 obtain ⟨v1,v2,v3,v4,v5,v6,v7,v8,v9,v10⟩:=hv
 simp only at v1 v2 v3 v4 v5 v6 v7 v8 v9 v10
 obtain ⟨kn,hkn⟩:∃ kn:Nat,k=(kn:Int):=⟨k.toNat,by omega⟩
 subst hkn
 obtain ⟨nn,hnn⟩:∃ nn:Nat,n=(nn:Int):=⟨n.toNat,by omega⟩
 subst hnn
 obtain ⟨R,hR⟩:∃ X,wO ⟨kn,nn,r,s,q⟩=X:=⟨_,rfl⟩
 rw [hR] at hb
 rw [hR]
 have HR:Hid (uv kn++(if kn=1 then uv nn++wL wCh q else if kn=2 then wB (Z0D r)++wL wAt s else if kn=3 then uv nn else [])=R):=hid (by
  rw [←hR,wO]
  simp only [Int.toNat_natCast]
  by_cases k1:kn=1
  ·rw [if_pos k1,if_pos (show (kn:Int)=1 by omega)]
  rw [if_neg k1,if_neg (show ¬ (kn:Int)=1 by omega)]
  by_cases k2:kn=2
  ·rw [if_pos k2,if_pos (show (kn:Int)=2 by omega)]
  rw [if_neg k2,if_neg (show ¬ (kn:Int)=2 by omega)]
  by_cases k3:kn=3
  ·rw [if_pos k3,if_pos (show (kn:Int)=3 by omega)]
  ·rw [if_neg k3,if_neg (show ¬ (kn:Int)=3 by omega)])
 have h5:=h.lt
 obtain ⟨rl,hrl⟩:∃ X,r.length=X:=⟨_,rfl⟩
 obtain ⟨sl,hsl⟩:∃ X,s.length=X:=⟨_,rfl⟩
 obtain ⟨ql,hql⟩:∃ X,q.length=X:=⟨_,rfl⟩
 unfold PartF at hp
 simp only at hp
 rw [hrl,hsl,hql] at hp
 rw [hrl,hsl,hql]
 rw [hrl] at v8 hcr
 rw [hsl] at v9
 rw [hql] at v10
 have RL:=hid hrl
 have SL:=hid hsl
 have QL:=hid hql
 have V5:=hid v5
 have V6:=hid v6
 have V7:=hid v7
 clear hR hrl hsl hql v5 v6 v7
 have y1:=Z0b w (.cells #[.int .u8 (kn:Int),.int .i64 (nn:Int),.slice Ar rl cr,.slice As sl cs,.slice Ap ql cp] 36)
 have HB:=hid (heap_alloc_new w (.cells #[.int .u8 (kn:Int),.int .i64 (nn:Int),.slice Ar rl cr,.slice As sl cs,.slice Ap ql cp] 36))
 have HW:=hid (h.below y1)
 have G1:Hid (Grow w F (w.alloc (.cells #[.int .u8 (kn:Int),.int .i64 (nn:Int),.slice Ar rl cr,.slice As sl cs,.slice Ap ql cp] 36)) F):=hid (Grow.of y1)
 have HNF:Hid (¬ F w.heap.size):=hid (fun hf=>by have:=h5 _ hf;omega)
 have HLT:Hid (w.heap.size<(w.alloc (.cells #[.int .u8 (kn:Int),.int .i64 (nn:Int),.slice Ar rl cr,.slice As sl cs,.slice Ap ql cp] 36)).heap.size):=hid (by simp)
 have HP1:=hid hp.1
 have HP2:=hid hp.2.1
 have HP3:=hid hp.2.2
 have hwk:IntKind.u64.wrap (kn:Int)=(kn:Int):=IntWalk.u64_in _ (by omega)
 have hwn:IntKind.u64.wrap (nn:Int)=(nn:Int):=IntWalk.u64_in _ (by omega)
 have HBR:Hid (l.length+R.length≤800000000):=hid hb
 clear h h5 y1 hp hb
 by_cases k1:kn=1
 ·subst k1
  have HE:Hid (uv 1++(uv nn++wL wCh q)=R):=hid (by rw [←HR.out,if_pos rfl])
  have HEL:Hid ((uv 1).length+((uv nn).length+(wL wCh q).length)=R.length):=hid (by rw [←HE.out,List.length_append,List.length_append])
  go_enter Tryz.func88,Tryz.ntmps88
  go_wp2_with (go_at_call 169;refine Hid.out ?_)
  refine hid ?_
  refine (Z0B p 1 F l _ (by omega) HW.out (by have:=HBR.out;omega)).mono ?_
  rintro e w2 ⟨rfl,F2,HW2,HG2⟩
  have HBb:=hid ((HG2.block _ HLT.out HNF.out).trans HB.out)
  obtain ⟨t0,t1,t2,t3,t4⟩:=Z0x HBb.out
  have HNF2:Hid (¬ F2 w.heap.size):=hid (HG2.out HLT.out HNF.out)
  have W2:=hid HW2
  have G2:=hid (G1.out.trans HG2)
  clear HW2 HG2
  go_wp2_with (go_at_call 169;refine Hid.out ?_)
  refine hid ?_
  refine (Z0B p nn F2 _ _ (by omega) W2.out (by have:=HBR.out;have:=HEL.out;simp only [List.length_append];omega)).mono ?_
  rintro e w3 ⟨rfl,F3,HW3,HG3⟩
  have HBc:=hid ((HG3.block _ (Z0p HBb.out) HNF2.out).trans HBb.out)
  clear t0 t1 t2 t3 t4
  obtain ⟨t0,t1,t2,t3,t4⟩:=Z0x HBc.out
  have W3:=hid HW3
  have G3:=hid (G2.out.trans HG3)
  clear HW3 HG3
  have R3:=hid (HP3.out.1.grow G3.out (by rw [QL.out];exact HP3.out.2))
  have O3:Hid (OffF F3 Ap ql):=hid (by have h1:=HP3.out.2;rw [←QL.out] at h1;have h2:=h1.grow HP3.out.1 G3.out;rwa [QL.out] at h2)
  go_wp2_with (go_at_call 170;refine Hid.out ?_)
  refine hid ?_
  refine (Y1M p F3 _ Ap ql cp q _ QL.out.symm R3.out O3.out V7.out W3.out (by have:=HBR.out;have:=HEL.out;simp only [List.length_append];omega) v10).mono ?_
  rintro e w4 ⟨rfl,F4,W4,G4⟩
  go_wp2_with (fail)
  refine bodyPost_ret (results_none rfl _ _ _) rfl ?_
  exact ⟨rfl,F4,by rw [←HE.out,←List.append_assoc,←List.append_assoc];exact W4,G3.out.trans G4⟩
 by_cases k2:kn=2
 ·subst k2
  have HE:Hid (uv 2++(wB (Z0D r)++wL wAt s)=R):=hid (by rw [←HR.out,if_neg (by decide),if_pos rfl])
  have HEL:Hid ((uv 2).length+((wB (Z0D r)).length+(wL wAt s).length)=R.length∧(Z0D r).length≤(wB (Z0D r)).length):=hid ⟨by rw [←HE.out,List.length_append,List.length_append],by unfold wB;rw [List.length_append];omega⟩
  go_enter Tryz.func88,Tryz.ntmps88
  go_wp2_with (go_at_call 169;refine Hid.out ?_)
  refine hid ?_
  refine (Z0B p 2 F l _ (by omega) HW.out (by have:=HBR.out;omega)).mono ?_
  rintro e w2 ⟨rfl,F2,HW2,HG2⟩
  have HBb:=hid ((HG2.block _ HLT.out HNF.out).trans HB.out)
  obtain ⟨t0,t1,t2,t3,t4⟩:=Z0x HBb.out
  have HNF2:Hid (¬ F2 w.heap.size):=hid (HG2.out HLT.out HNF.out)
  have W2:=hid HW2
  have G2:=hid (G1.out.trans HG2)
  clear HW2 HG2
  have R1:=hid (HP1.out.1.grow G2.out (by rw [RL.out];exact HP1.out.2))
  go_wp2_with (go_at_call 171;refine Hid.out ?_)
  refine hid ?_
  refine (Y2Z Ar rl cr r _ RL.out.symm R1.out (by omega)).mono ?_
  rintro e w3 hout
  unfold Y0y at hout
  rw [if_pos V5.out,if_pos V5.out] at hout
  obtain ⟨vb,rfl,ob,y3⟩:=hout
  obtain ⟨Ab,cb,rfl,hcb,ob2⟩:=ow_sl ob (l:=Z0D r) rfl rfl
  have HBc:=hid ((y3.block _ (Z0p HBb.out)).trans HBb.out)
  have W3:=hid (W2.out.below y3)
  have G3:=hid (G2.out.trans (Grow.of y3))
  have RB:=hid (ob2.rd Z1Q)
  have hF2:=W2.out.lt
  have OB:=hid (Ow.offF Z1Q ob2 rfl (F:=F2) (fun k hk hf=>by have h1:=(ob2.wb_lt k hk).1;have h2:=hF2 k hf;omega))
  have BL:Hid (∃ X,(Z0D r).length=X):=hid ⟨_,rfl⟩
  obtain ⟨bl,hbl⟩:=BL.out
  have HBL:=hid hbl
  rw [hbl] at OB hcb
  rw [hbl]
  clear t0 t1 t2 t3 t4 y3 ob ob2 hF2 hbl BL
  obtain ⟨t0,t1,t2,t3,t4⟩:=Z0x HBc.out
  go_wp2_with (go_at_call 172;refine Hid.out ?_)
  refine hid ?_
  refine (Z50 p bl cb Ab (Z0D r) F2 _ _ HBL.out.symm RB.out OB.out W3.out (by have:=HBR.out;have:=HEL.out;have:=HBL.out;simp only [List.length_append];omega)).mono ?_
  rintro e w4 ⟨rfl,F4,HW4,HG4⟩
  have HBd:=hid ((HG4.block _ (Z0p HBc.out) HNF2.out).trans HBc.out)
  clear t0 t1 t2 t3 t4
  obtain ⟨t0,t1,t2,t3,t4⟩:=Z0x HBd.out
  have W4:=hid HW4
  have G4:=hid (G3.out.trans HG4)
  clear HW4 HG4
  have R4:=hid (HP2.out.1.grow G4.out (by rw [SL.out];exact HP2.out.2))
  have O4:Hid (OffF F4 As sl):=hid (by have h1:=HP2.out.2;rw [←SL.out] at h1;have h2:=h1.grow HP2.out.1 G4.out;rwa [SL.out] at h2)
  go_wp2_with (go_at_call 173;refine Hid.out ?_)
  refine hid ?_
  refine (Y49 p F4 _ As sl cs s _ SL.out.symm R4.out O4.out V6.out W4.out (by have:=HBR.out;have:=HEL.out;simp only [List.length_append];omega) v9).mono ?_
  rintro e w5 ⟨rfl,F5,W5,G5⟩
  go_wp2_with (fail)
  refine bodyPost_ret (results_none rfl _ _ _) rfl ?_
  exact ⟨rfl,F5,by rw [←HE.out,←List.append_assoc,←List.append_assoc];exact W5,G4.out.trans G5⟩
 by_cases k3:kn=3
 ·subst k3
  have HE:Hid (uv 3++uv nn=R):=hid (by rw [←HR.out,if_neg (by decide),if_neg (by decide),if_pos rfl])
  have HEL:Hid ((uv 3).length+(uv nn).length=R.length):=hid (by rw [←HE.out,List.length_append])
  go_enter Tryz.func88,Tryz.ntmps88
  go_wp2_with (go_at_call 169;refine Hid.out ?_)
  refine hid ?_
  refine (Z0B p 3 F l _ (by omega) HW.out (by have:=HBR.out;omega)).mono ?_
  rintro e w2 ⟨rfl,F2,HW2,HG2⟩
  have HBb:=hid ((HG2.block _ HLT.out HNF.out).trans HB.out)
  obtain ⟨t0,t1,t2,t3,t4⟩:=Z0x HBb.out
  have HNF2:Hid (¬ F2 w.heap.size):=hid (HG2.out HLT.out HNF.out)
  have W2:=hid HW2
  have G2:=hid (G1.out.trans HG2)
  clear HW2 HG2
  go_wp2_with (go_at_call 169;refine Hid.out ?_)
  refine hid ?_
  refine (Z0B p nn F2 _ _ (by omega) W2.out (by have:=HBR.out;have:=HEL.out;simp only [List.length_append];omega)).mono ?_
  rintro e w3 ⟨rfl,F3,W3,G3⟩
  go_wp2_with (fail)
  refine bodyPost_ret (results_none rfl _ _ _) rfl ?_
  exact ⟨rfl,F3,by rw [←HE.out,←List.append_assoc];exact W3,G2.out.trans G3⟩
 ·have b1:((kn:Int)==1)=false:=beq_eq_false_iff_ne.2 (by omega)
  have b2:((kn:Int)==2)=false:=beq_eq_false_iff_ne.2 (by omega)
  have b3:((kn:Int)==3)=false:=beq_eq_false_iff_ne.2 (by omega)
  have HE:Hid (uv kn=R):=hid (by rw [←HR.out,if_neg k1,if_neg k2,if_neg k3,List.append_nil])
  clear k1 k2 k3
  go_enter Tryz.func88,Tryz.ntmps88
  go_wp2_with (go_at_call 169;refine Hid.out ?_)
  refine hid ?_
  refine (Z0B p kn F l _ (by omega) HW.out (by have:=HBR.out;omega)).mono ?_
  rintro e w2 ⟨rfl,F2,HW2,HG2⟩
  have HBb:=hid ((HG2.block _ HLT.out HNF.out).trans HB.out)
  obtain ⟨t0,t1,t2,t3,t4⟩:=Z0x HBb.out
  have HNF2:Hid (¬ F2 w.heap.size):=hid (HG2.out HLT.out HNF.out)
  have W2:=hid HW2
  have G2:=hid (G1.out.trans HG2)
  clear HW2 HG2
  go_wp2_with (fail)
  refine bodyPost_ret (results_none rfl _ _ _) rfl ?_
  exact ⟨rfl,F2,by rw [←HE.out];exact W2.out,G2.out⟩
theorem Y1U (p:Nat) (F:Nat→Prop) (l:List Int) (A:Option Addr) (n c:Nat) (x:List OpS) (w:World) (hn:n=x.length) (hx:OpsF w F A x) (hok:∀ o∈x,Y1T o.o) (hcr:∀ o∈x,o.o.r.length≤o.cr) (h:Wr w F p l) (hb:l.length+(wX (osOf x)).length≤800000000) (hb2:n≤100000000) :
 Calls Tryz.prog 87 #[.pointer (some ⟨p,0,none⟩),.slice A n c,.func (.func 88) #[.pointer (some ⟨p,0,none⟩)] #[]] w (OutW (l++wX (osOf x)) w F p):=by
 have N:=hid hn
 have HX:=hid hx
 have OK:=hid hok
 have CR:=hid hcr
 have hwn:IntKind.u64.wrap (n:Int)=(n:Int):=IntWalk.u64_in _ (by omega)
 obtain ⟨R,hR⟩:∃ X,wX (osOf x)=X:=⟨_,rfl⟩
 rw [hR] at hb
 rw [hR]
 have HR:Hid (uv n++(osOf x).flatMap wO=R):=hid (by rw [←hR,wX,wL,N.out];unfold osOf;rw [List.length_map])
 have HL:Hid ((uv n).length+((osOf x).flatMap wO).length=R.length):=hid (by rw [←HR.out,List.length_append])
 clear hR hn hx hok hcr
 go_enter Tryz.func87,Tryz.ntmps87
 go_wp2_with (go_at_call 169;refine Hid.out ?_)
 refine hid ?_
 refine (Z0B p n F l _ (by omega) h (by omega)).mono ?_
 rintro e w1 ⟨rfl,F1,W1,G1⟩
 have HW1:=hid W1
 have HG1:=hid G1
 clear W1 G1 h
 go_wp2_with (fail)
 go_loopg [15] n (fun g iv wr => ∃ (k:Nat) (Fk:Nat→Prop) (wk:World),k≤n∧g=n-k∧iv=.int .i64 (k:Int)∧wk=wr∧Hid (Wr wk Fk p (l++uv n++(osOf (x.take k)).flatMap wO))∧Hid (Grow w F wk Fk))
 case atStart=>exact ⟨0,F1,w1,by omega,rfl,rfl,rfl,hid (by simpa [osOf] using HW1.out),HG1⟩
 case round=>
  obtain ⟨k,Fk,wk,hk,hg,rfl,rfl,HWk,HGk⟩:=hrel
  have HG:=hid hg
  clear hg
  by_cases hlt:k<n
  ·have XK:=hid (HX.out.grow HGk.out)
   obtain ⟨ad,o,rfl,had,hd1,hx1,hc1⟩:=XK.out.1.el (i:=k) (by have:=N.out;omega)
   have hmem:=List.mem_of_getElem? hx1
   have HT:Hid ((osOf (x.take k)).flatMap wO++wO o.o=(osOf (x.take (k+1))).flatMap wO):=hid (by
    unfold osOf
    rw [List.take_add_one,hx1,List.map_append,List.flatMap_append]
    simp)
   have HTL:Hid (((osOf (x.take (k+1))).flatMap wO).length≤((osOf x).flatMap wO).length):=hid (by
    unfold osOf
    conv=>rhs;rw [←List.take_append_drop (k+1) x]
    rw [List.map_append,List.flatMap_append,List.length_append]
    omega)
   have HOK:=hid (OK.out o hmem)
   have HCR:=hid (CR.out o hmem)
   have PT:=hid (XK.out.2.2 o hmem)
   obtain ⟨⟨ok,on,or_,os,oq⟩,Ar,cr,As,cs,Ap,cp⟩:=o
   obtain ⟨r0,r1,r2,r3,r4⟩:=Z0r hc1
   simp only at HT HOK HCR
   have y1:=Z0b wk (.cells #[.int .u8 ok,.int .i64 on,.slice Ar or_.length cr,.slice As os.length cs,.slice Ap oq.length cp] 36)
   have WK2:=hid (HWk.out.below y1)
   have PT2:=hid (PT.out.grow (Grow.of (F:=Fk) y1))
   have GK2:Hid (Grow w F (wk.alloc (.cells #[.int .u8 ok,.int .i64 on,.slice Ar or_.length cr,.slice As os.length cs,.slice Ap oq.length cp] 36)) Fk):=hid (HGk.out.trans (Grow.of y1))
   have HBB:Hid ((l++uv n++(osOf (x.take k)).flatMap wO).length+(wO ⟨ok,on,or_,os,oq⟩).length≤800000000):=hid (by
    have h1:=congrArg List.length HT.out
    have h2:=HTL.out
    have h3:=HL.out
    rw [List.length_append] at h1
    rw [List.length_append,List.length_append]
    omega)
   obtain ⟨rn,hrn⟩:∃ X,or_.length=X:=⟨_,rfl⟩
   obtain ⟨sn,hsn⟩:∃ X,os.length=X:=⟨_,rfl⟩
   obtain ⟨qn,hqn⟩:∃ X,oq.length=X:=⟨_,rfl⟩
   have KEY:=hid (Y7f p Fk _ ok on Ar As Ap or_ os oq cr cs cp _ HOK.out PT2.out HCR.out WK2.out HBB.out)
   rw [hrn,hsn,hqn] at GK2 KEY
   rw [hrn] at r2
   rw [hsn] at r3
   rw [hqn] at r4
   clear hd1 hx1 hc1 hmem y1 WK2 PT2 hrn hsn hqn
   go_wp2_with (go_at_call 88;refine Hid.out ?_)
   refine hid ?_
   refine KEY.out.mono ?_
   rintro e w3 ⟨rfl,F3,W3,G3⟩
   have HW3:Hid (Wr w3 F3 p (l++uv n++(osOf (x.take (k+1))).flatMap wO)):=hid (by rw [←HT.out,←List.append_assoc];exact W3)
   have HG3:=hid (GK2.out.trans G3)
   clear W3 G3
   go_wp2_with (fail)
   go_roundg (n-(k+1))
   case measure=>have:=HG.out;omega
   case rel=>exact ⟨k+1,F3,w3,by omega,rfl,by go_num,rfl,HW3,HG3⟩
  ·have HE:Hid (l++uv n++(osOf (x.take k)).flatMap wO=l++R):=hid (by rw [List.take_of_length_le (by have:=N.out;omega),List.append_assoc,HR.out])
   go_wp2_with (fail)
   refine bodyPost_ret (results_none rfl _ _ _) rfl ?_
   exact ⟨rfl,Fk,by rw [←HE.out];exact HWk.out,HGk.out⟩
end Go.Proofs.YtnmedachaeanbaaGreatDoor
