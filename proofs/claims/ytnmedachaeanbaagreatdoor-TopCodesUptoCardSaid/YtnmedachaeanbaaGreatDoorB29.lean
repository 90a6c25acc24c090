/- Merged texts. -/
import Derived.Laws.Rows
import Derived.Test.YtnmedachaeanbaaGreatDoorB28
import Derived.RangeFuncBox
import Derived.RangeFuncCalls
import Derived.RangeFuncLeaves
import Derived.Shelf.Abstract
import Derived.OwnWalkIn
import Derived.TacticsInMore
import Derived.LoopNIn
import Derived.LoopIn
import Derived.Sort.LoopGhostIn
import Derived.Sort.QuietIn
import Derived.BigRegionIn
namespace Go.Proofs.YtnmedachaeanbaaGreatDoor
set_option maxRecDepth 100000
set_option maxHeartbeats 3200000
open Go.RowKit
open Go.Lib (hid)
set_option linter.unusedVariables false
set_option linter.unusedSimpArgs false
theorem Tryz.unCl:Tryz.prog.underlying 41=some (.struct (Tryz.prog.fieldsOf 41)):=by kernel_rfl
theorem Y1a (s:Nat) (l:List Ky) (r:Int) (As Ap:Option Addr) (n cs np cp:Nat) (set:List At) (p:List Ch) (w:World) (hS:Sch w s l) (hn:n=set.length) (hp:np=p.length) (h1:RdAt w w.heap.size As set) (h2:RdCh w w.heap.size Ap p)
 (b1:n≤100000000) (b2:np≤100000000) (g1:n≤cs) (g2:cs≤maxLen) :
 Calls Tryz.prog 159 #[.pointer (some ⟨s,0,none⟩),.agg #[.int .i32 r,.slice As n cs],.slice Ap np cp] w
  fun e w' => ∃ A c,e=.returned (.agg #[.int .i32 r,.slice A (actC l ⟨r,set⟩ p).s.length c])∧OwAt w' w.heap.size (.slice A (actC l ⟨r,set⟩ p).s.length c) (actC l ⟨r,set⟩ p).s∧Below w.heap.size w w':=by
 have ya:=Z0b w (.cells #[.int .i32 r,.slice As n cs] 41)
 have yb:=Z0b (w.alloc (.cells #[.int .i32 r,.slice As n cs] 41)) (.cells #[.int .i32 0,.slice none 0 0] 41)
 have g1':=heap_alloc_new w (.cells #[.int .i32 r,.slice As n cs] 41)
 have g2':=heap_alloc_new (w.alloc (.cells #[.int .i32 r,.slice As n cs] 41)) (.cells #[.int .i32 0,.slice none 0 0] 41)
 have G1:=(yb.block w.heap.size (by simp)).trans g1'
 rw [World.size_alloc] at g2'
 have y:=Z0a ya yb
 have N:=hid hn
 have P:=hid hp
 have HR:Hid (∃ X,(actC l ⟨r,set⟩ p).s=X∧Z1i (Z5n l (r==10) p) set=X):=hid ⟨_,rfl,rfl⟩
 obtain ⟨X,hX1,hX2⟩:=HR.out
 rw [hX1]
 have HX:=hid hX2
 clear ya yb g1' hX1 hX2 HR hn hp
 have hbp:(Z5n l (r==10) p).length≤np:=by rw [P.out];exact List.length_filter_le _ _
 have BND:Hid (np≤100000000):=hid b2
 go_enter Tryz.func159,Tryz.ntmps159
 go_wp2_with (fail)
 obtain ⟨sz,hsz⟩:∃ z,w.heap.size=z:=⟨_,rfl⟩
 have HSZ:=hid hsz
 generalize ((w.alloc (.cells #[.int .i32 r,.slice As n cs] 41)).alloc (.cells #[.int .i32 0,.slice none 0 0] 41))=v at *
 have Y:=hid y
 have HG1:=hid G1
 have HG2:=hid g2'
 obtain ⟨a0,a1⟩:=Z52 G1
 obtain ⟨e0,e1⟩:=Z52 g2'
 have hlt1:=Z0c G1
 have hlt2:=Z0c g2'
 rw [hsz] at a0 a1 e0 e1 hlt1 hlt2 ⊢
 have SF:Hid (∀ u,Below v.heap.size v u→(u.cell? ⟨sz,0,none⟩=some (.int .i32 r)∧u.cell? ⟨sz,1,none⟩=some (.slice As n cs))∧(u.cell? ⟨sz+1,0,none⟩=some (.int .i32 0)∧u.cell? ⟨sz+1,1,none⟩=some (.slice none 0 0))∧u.heap[sz+1]? = some (.cells #[.int .i32 0,.slice none 0 0] 41 (0,0))):=hid (fun u hu=>by
  have q1:=(hu.block _ (by rw [←HSZ.out] at hlt1;exact hlt1)).trans HG1.out
  have q2:=(hu.block _ (by rw [←HSZ.out] at hlt2;exact hlt2)).trans HG2.out
  rw [HSZ.out] at q1 q2
  exact ⟨Z52 q1,Z52 q2,q2⟩)
 have hf0:v.frozen? ⟨sz+1,0,none⟩=false:=Z0h (SF.out v (Below.refl _ _)).2.2 0
 clear G1 g2' hlt1 hlt2 y hsz
 go_region_law (first
  | (refine Z0L rfl 67 [.tmp 11,.tmp 12,.tmp 15] #[29,24,4] rfl Tryz.f67 (by kernel_rfl) (by kernel_rfl) (by kernel_rfl) [.pointer (some ⟨s,0,none⟩),.slice Ap np cp,.bool (r==10)] (by rfl) (Y5K s l (r==10) Ap np cp p v.drew P.out (h2.ext (Z0U Y.out)) b2 (hS.ext (Z0U Y.out))) ?_
     rintro e w3 ⟨A3,k3,rfl,o3,y3⟩
     refine ⟨_,rfl,?_⟩
     have O3:=hid o3
     have Y3:Hid (Below v.heap.size v w3):=hid ((Z0U (Below.refl _ _)).trans y3)
     obtain ⟨⟨c0,c1⟩,⟨c2,c3⟩,c4⟩:=SF.out w3 Y3.out
     clear o3 y3)
  | (refine Z0L rfl 247 [.tmp 10,.tmp 16] #[34,24] rfl Tryz.f247 (by kernel_rfl) (by kernel_rfl) (by kernel_rfl) [.slice As n cs,.slice A3 (Z5n l (r==10) p).length k3] (by rfl) (Y3c As A3 n (Z5n l (r==10) p).length cs k3 set (Z5n l (r==10) p) w3 N.out rfl (h1.ext (Z0a Y.out Y3.out)) (O3.out.rd Ch.enc_len) b1 (by have:=BND.out;omega) g1 g2) ?_
     rw [HX.out]
     rintro e w4 ⟨A4,k4,rfl,o4,y4⟩
     refine ⟨_,rfl,?_⟩
     have O4:=hid o4
     have Y4:Hid (Below v.heap.size v w4):=hid (Z0a Y3.out y4)
     obtain ⟨⟨d0,d1⟩,⟨d2,d3⟩,d4⟩:=SF.out w4 Y4.out
     have hf4:w4.frozen? ⟨sz+1,0,none⟩=false:=Z0h d4 0
     have hf5:w4.frozen? ⟨sz+1,1,none⟩=false:=Z0h d4 1
     clear o4 y4))
 all_goals
  go_wp2_with (fail)
  have q1:((w4.setCell ⟨sz+1,0,none⟩ (.int .i32 r)).setCell ⟨sz+1,1,none⟩ (.slice A4 X.length k4)).heap[sz+1]? = some (.cells #[.int .i32 r,.slice A4 X.length k4] 41 (0,0)):=by
   have h1:=Z0d (j:=0) d4 (.int .i32 r)
   have h2:=Z0d (j:=1) h1 (.slice A4 X.length k4)
   simpa using h2
  refine bodyPost_ret (results_cell_row (P:=Tryz.prog) rfl _ _ (sz+1) 41 #[.int .i32 r,.slice A4 X.length k4] (0,0) _ rfl q1 Tryz.unCl rfl Tryz.szCl) rfl ?_
  have ha:=(O4.out.base_le (B:=w.heap.size) (by have:=Y3.out.size;have:=Y.out.size;omega))
  have hne:∀ k,wb (.slice A4 X.length k4)=some k→k≠sz+1:=fun k hk=>by
   have:=(O4.out.wb_lt k hk).1
   have:=Z0c c4
   omega
  refine ⟨A4,k4,rfl,(ha.setCell (p:=⟨sz+1,0,none⟩) (fun e=>hne _ e rfl) _).setCell (p:=⟨sz+1,1,none⟩) (fun e=>hne _ e rfl) _,?_⟩
  exact ((Z0a Y.out Y4.out).setCell (p:=⟨sz+1,0,none⟩) (by have:=HSZ.out;simp only;omega) _).setCell (p:=⟨sz+1,1,none⟩) (by have:=HSZ.out;simp only;omega) _
open Go.RowKit Go.Shelf
attribute [local go_sem] Oper.semAt_some
structure ClGive (w0 W:World) (G:Nat→Prop) (Bd:Nat) (z:ClS):Prop where
 ow:OwAt W w0.heap.size (.slice z.As z.c.s.length z.cs) z.c.s
 off:∀ k,wb (.slice z.As z.c.s.length z.cs)=some k→¬ G k∧k≠Bd
def Y8z (w0:World) (Bd l N:Nat) (J:List Cl→(Nat→Prop)→World→Prop):Prop:=
 ∀ (n:Nat) p G z W,J p G W→ClGive w0 W G Bd z→p.length<N→YieldAt Fence.wide n Tryz.prog l #[.agg #[.int .i32 z.c.r,.slice z.As z.c.s.length z.cs]] W fun e W'=>
   e=.returned (.bool true)∧∃ G',J (p++[z.c]) G' W'∧Grow W G W' G'
structure EachSt (w0 wr:World) (Bs Bd Bx sc:Nat) (Ax:Option Addr) (nx cx:Nat) (r:List ClS):Prop where
 y:Below w0.heap.size w0 wr
 s:wr.heap[Bs]? = some (.cells #[.pointer (some ⟨sc,0,none⟩)] 29 (0,0))
 x:wr.heap[Bx]? = some (.cells #[.slice Ax nx cx] 37 (0,0))
 d:∃ A n c,wr.heap[Bd]? = some (.cells #[.slice A n c] 23 (0,0))∧n=r.length∧n≤c∧RdCl w0 w0.heap.size A r
theorem EachSt.grow {w0 wr w2:World} {Bs Bd Bx sc nx cx:Nat} {Ax:Option Addr} {r:List ClS} {G G':Nat→Prop} (h:EachSt w0 wr Bs Bd Bx sc Ax nx cx r) (g:Grow wr G w2 G') (hG:∀ k,G k→k≠Bd∧k≠Bs∧k≠Bx∧w0.heap.size≤k):EachSt w0 w2 Bs Bd Bx sc Ax nx cx r:=by
 have hy:=h.y
 refine ⟨hy.trans (g.below (fun k hk=>(hG k hk).2.2.2) hy.size),?_,?_,?_⟩
 ·exact (g.block Bs (Z0c h.s) (fun e=>(hG _ e).2.1 rfl)).trans h.s
 ·exact (g.block Bx (Z0c h.x) (fun e=>(hG _ e).2.2.1 rfl)).trans h.x
 ·obtain ⟨A,n,c,h1,h2⟩:=h.d
  exact ⟨A,n,c,(g.block Bd (Z0c h1) (fun e=>(hG _ e).1 rfl)).trans h1,h2⟩
theorem EachSt.ext {w0 wr w2:World} {Bs Bd Bx sc nx cx:Nat} {Ax:Option Addr} {r:List ClS} (h:EachSt w0 wr Bs Bd Bx sc Ax nx cx r) (y:Below wr.heap.size wr w2):EachSt w0 w2 Bs Bd Bx sc Ax nx cx r:=
 h.grow (G:=fun _=>False) (G':=fun _=>False) ⟨y.os,y.tape,y.output,y.size,fun j hj _=>y.block j hj,fun _ h=>h.elim⟩ (fun _ h=>h.elim)
theorem Y5O (n l Bs Bd Bx sc:Nat) (ky:List Ky) (A1 Ax:Option Addr) (n1 c1 nx cx:Nat) (d:List ClS) (x:List OpS) (w0 W:World)
 (J:List Cl→(Nat→Prop)→World→Prop) (hJ:∀ p G A B,J p G A→Grow A (fun k=>k=Bd) B (fun k=>k=Bd)→J p G B)
 (hJG:∀ p G A,J p G A→∀ k,G k→k<A.heap.size∧k≠Bd∧k≠Bs∧k≠Bx∧w0.heap.size≤k)
 (hY:Y8z w0 Bd l (Z3h ky (osOf x) (Z0g d)).length J)
 (hn1:n1=d.length) (hnx:nx=x.length) (k1:n1≤c1) (b1:n1≤1000000) (bx:nx≤1048576) (h1:RdCl w0 w0.heap.size A1 d) (hx:RdOp w0 w0.heap.size Ax x) (hS:Sch w0 sc ky)
 (hcap:∀ z∈d,z.c.s.length≤100000000∧z.c.s.length≤z.cs∧z.cs≤maxLen) (hop:∀ o∈x,isOp o.o∧okOp o.o) (hfit:tks (osOf x)≤d.length)
 (g0:Below w0.heap.size w0 W) (hBs:W.heap[Bs]? = some (.cells #[.pointer (some ⟨sc,0,none⟩)] 29 (0,0))) (hBd:W.heap[Bd]? = some (.cells #[.slice A1 n1 c1] 23 (0,0))) (hBx:W.heap[Bx]? = some (.cells #[.slice Ax nx cx] 37 (0,0)))
 (m1:w0.heap.size≤Bs) (m2:w0.heap.size≤Bd) (m3:w0.heap.size≤Bx) (ne1:Bs≠Bd) (ne2:Bx≠Bd) (G0:Nat→Prop) (h0:J [] G0 W) :
 CallsIn Fence.wide n Tryz.prog 182 #[.func (.yield l) #[] #[],.pointer (some ⟨Bx,0,none⟩),.pointer (some ⟨Bd,0,none⟩),.pointer (some ⟨Bs,0,none⟩)] W fun e W'=>
  (∃ v,e=.returned v)∧∃ G',J (Z3h ky (osOf x) (Z0g d)) G' W':=by
 have c1x:=Z2n hBx
 have c1d:=Z2n hBd
 have c1s:=Z2n hBs
 refine callsIn_of_wp Tryz.func182 rfl trivial ?_ rfl
 simp only [Tryz.ntmps182,List.size_toArray,List.length_cons,List.length_nil,Nat.reduceAdd,Nat.reduceSub,Array.replicate_succ,Array.replicate_zero,List.push_toArray,List.append_toArray,List.nil_append,List.cons_append]
 have ST0:Hid (EachSt w0 W Bs Bd Bx sc Ax nx cx d):=hid ⟨g0,hBs,hBx,A1,n1,c1,hBd,hn1,k1,h1⟩
 have HX:=hid hx
 have HOP:=hid hop
 have HCAP:=hid hcap
 have HY:=hid hY
 have HFIT:=hid hfit
 have NX:=hid hnx
 have HS:=hid hS
 have HJ:=hid hJ
 have HJG:=hid hJG
 have BX:=hid bx
 have ND:Hid (d.length≤1000000):=hid (by omega)
 clear hx hop hcap hY hfit hnx hS hJ hJG g0 hBs hBd hBx h1 hn1 k1 bx c1d c1s
 gi_wp2
 gi_loopg [14] nx (fun g s14 wr => ∃ (i:Nat) (G:Nat→Prop),i≤nx∧g=nx-i∧s14=.int .i64 (i:Int)∧J (Z1I ky ((osOf x).take i) (Z0g d)) G wr∧EachSt w0 wr Bs Bd Bx sc Ax nx cx (d.drop (tks ((osOf x).take i))))
 case atStart=>exact ⟨0,G0,by omega,rfl,rfl,h0,ST0.out⟩
 case round=>
  obtain ⟨i,G,hi,hg,rfl,hj,hst⟩:=hrel
  have HG:=hid hg
  have HJ0:=hid hj
  have ST:=hid hst
  clear hg hj hst ST0 h0
  by_cases hlt:i<nx
  ·have hlt':(i:Int)<(nx:Int):=by omega
   obtain ⟨ad,o,rfl,had,_,hoi,hco⟩:=HX.out.1.el (i:=i) (by have:=NX.out;omega)
   have hom:=List.mem_of_getElem? hoi
   have OO:=hid (HOP.out o hom)
   have OI:Hid ((osOf x)[i]? = some o.o):=hid (by unfold osOf;rw [List.getElem?_map,hoi];rfl)
   have PR:=hid (HX.out.2 o hom)
   have hcw:=hco.keep (w':=wr) fun q hq=>ST.out.y.cell (by rw [hq,Z0R];exact had)
   obtain ⟨⟨ok,on,or',os',op⟩,Ar,cr,As,cs,Ap,cp⟩:=o
   obtain ⟨z0,z1,z2,z3,z4⟩:=Z0r hcw
   have hw2:IntKind.i64.wrap ((i:Int)+1)=(i:Int)+1:=IntWalk.i64_in _ (by have:=BX.out;omega)
   have ya:=Z0b wr (.cells #[.int .u8 ok,.int .i64 on,.slice Ar or'.length cr,.slice As os'.length cs,.slice Ap op.length cp] 36)
   have HB6:=hid (heap_alloc_new wr (.cells #[.int .u8 ok,.int .i64 on,.slice Ar or'.length cr,.slice As os'.length cs,.slice Ap op.length cp] 36))
   obtain ⟨q0,q1,q2,q3,q4⟩:=Z0x HB6.out
   have ST2:=hid (ST.out.ext ya)
   clear hco hoi hom hcw
   -- printed from here on by wip/gen_eachw.py
   have HJG0:=hid (fun k hk=>HJG.out _ _ _ HJ0.out k hk:∀ k,G k→k<wr.heap.size∧k≠Bd∧k≠Bs∧k≠Bx∧w0.heap.size≤k)
   obtain ⟨b6,hb6⟩:∃ b,wr.heap.size=b:=⟨_,rfl⟩
   by_cases hk2:ok=2
   ·have hk1:tkN ⟨ok,on,or',os',op⟩=0:=by unfold tkN;rw [if_pos hk2]
    have RS:Hid (d.drop (tks ((osOf x).take (i+1)))=d.drop (tks ((osOf x).take i))):=hid (by rw [Y6E OI.out,hk1];rfl)
    have LAY:Hid (layC ⟨ok,on,or',os',op⟩ ((Z0g d).drop (tks ((osOf x).take i)))=or'.map (fun r=>⟨r,os'⟩)):=hid (by unfold layC;rw [if_pos hk2])
    subst hk2
    gi_wp2
    refine ⟨trivial,fun h=>(by cases h),(callsIn_wide.2 (Z91 Ar As or'.length os'.length cr cs or' os' _ rfl rfl (PR.out.1.ext ST2.out.y) (PR.out.2.1.ext ST2.out.y) OO.out.2.2.2.1 OO.out.2.2.2.2.1)).mono ?_⟩
    rintro e v ⟨Al,cl,L,rfl,hL,oL,pL,yL⟩
    have YL:=hid (Z0a ya yL)
    have HJv:Hid (J (Z1I ky ((osOf x).take i) (Z0g d)) G v):=hid (HJ.out _ _ _ _ HJ0.out (Grow.of (F:=fun k=>k=Bd) YL.out))
    have STv:Hid (EachSt w0 v Bs Bd Bx sc (some ad) nx cx (d.drop (tks ((osOf x).take (i+1))))):=hid (by rw [RS.out];exact ST2.out.ext yL)
    have B6v:=hid ((yL.block wr.heap.size (by simp)).trans HB6.out)
    have NB6:Hid (¬ G b6):=hid (fun h=>by have:=(HJG0.out b6 h).1;omega)
    have szl:wr.heap.size<(wr.alloc (.cells #[.int .u8 2,.int .i64 on,.slice Ar or'.length cr,.slice As os'.length cs,.slice Ap op.length cp] 36)).heap.size:=by simp
    have LR:Hid (RdCl v v.heap.size Al L∧OffF G Al L.length∧∀ z∈L,OffF G z.As z.c.s.length):=hid ⟨⟨oL.rd ClS.enc_len,fun z hz=>(pL z hz).1.rd At.enc_len⟩,
     oL.offF ClS.enc_len rfl (fun k hk hG=>by have:=(oL.wb_lt k hk).1;have:=(HJG0.out k hG).1;omega),
     fun z hz=>(pL z hz).1.offF At.enc_len rfl (fun k hk hG=>by have:=((pL z hz).1.wb_lt k hk).1;have:=(HJG0.out k hG).1;omega)⟩
    have CAPS:Hid (∀ z∈L,z.c.s.length≤100000000∧z.c.s.length≤z.cs∧z.cs≤maxLen):=hid (fun z hz=>by
     have hm:z.c∈Z0g L:=by unfold Z0g;exact List.mem_map_of_mem hz
     rw [hL] at hm
     obtain ⟨r,hr,e⟩:=List.mem_map.1 hm
     obtain ⟨_,_,hv,hc1,hc2⟩:=(pL z hz).1.form
     injection hv with _ _ hcc
     subst hcc
     exact ⟨by rw [←e];exact OO.out.2.2.2.2.1,hc1,hc2⟩)
    have HLAY:Hid (Z0g L=layC ⟨2,on,or',os',op⟩ ((Z0g d).drop (tks ((osOf x).take i)))):=hid (hL.trans LAY.out.symm)
    have LNB:Hid (L.length≤100000000):=hid (by have h:=congrArg List.length hL;rw [Z00,List.length_map] at h;have h9:or'.length≤100000000:=OO.out.2.2.2.1;omega)
    obtain ⟨nl,hnl⟩:∃ X,L.length=X:=⟨_,rfl⟩
    have LN:=hid hnl
    rw [hnl]
    rw [hnl] at LNB
    rw [hb6] at B6v
    clear z0 z1 z2 z3 z4 q0 q1 q2 q3 q4 oL pL yL hL ya ST2 hnl hb6 RS LAY ST HJ0 HB6 szl hk1
    obtain ⟨ok,hok⟩:∃ X:Int,(2:Int)=X:=⟨_,rfl⟩
    gi_wp2
    gi_loopg [43] nl (fun g s43 wv => ∃ (j:Nat) (G2:Nat→Prop),j≤nl∧g=nl-j∧s43=.int .i64 (j:Int)∧J (Z1I ky ((osOf x).take i) (Z0g d)++((Z0g L).take j).map (fun c=>actC ky c op)) G2 wv∧EachSt w0 wv Bs Bd Bx sc (some ad) nx cx (d.drop (tks ((osOf x).take (i+1)))) ∧
     wv.heap[b6]? = some (.cells #[.int .u8 2,.int .i64 on,.slice Ar or'.length cr,.slice As os'.length cs,.slice Ap op.length cp] 36 (0,0))∧(¬ G2 b6)∧RdCl wv wv.heap.size Al L∧OffF G2 Al L.length∧(∀ z∈L,OffF G2 z.As z.c.s.length))
    case atStart=>exact ⟨0,G,by omega,rfl,rfl,by rw [List.take_zero,List.map_nil,List.append_nil];exact HJv.out,STv.out,B6v.out,NB6.out,LR.out.1,LR.out.2.1,LR.out.2.2⟩
    case round=>
     obtain ⟨j,G2,hj,hg2,rfl,hjj,hst2,hb6,hnb,hl1,hl2,hl3⟩:=hrel
     have HG2:=hid hg2
     have HJJ:=hid hjj
     have ST5:=hid hst2
     have B65:=hid hb6
     clear hg2 hjj hst2
     by_cases hlt2:j<nl
     ·have hlt2':(j:Int)<(nl:Int):=by omega
      obtain ⟨az,z,hAz,haz,_,hzj,hcz⟩:=hl1.1.el (i:=j) (by rw [LN.out];exact hlt2)
      have hzm:=List.mem_of_getElem? hzj
      have CZ:=hid (CAPS.out z hzm)
      have RZ:=hid (hl1.2 z hzm)
      have ZJ:Hid ((Z0g L).take (j+1)=(Z0g L).take j++[z.c]):=hid (by rw [List.take_add_one,Z7V hzj];rfl)
      have L1:=hid hl1
      have L2:=hid hl2
      have L3:=hid hl3
      obtain ⟨⟨zr,zs⟩,zA,zc⟩:=z
      obtain ⟨t0,t1⟩:=Z1E hcz
      have yb:=Z0b wr (.cells #[.int .i32 zr,.slice zA zs.length zc] 41)
      have c1s:=Z2n (ST5.out.ext yb).s
      obtain ⟨p0,p1,p2,p3,p4⟩:=Z0x ((yb.block b6 (Z0c B65.out)).trans B65.out)
      have YB:=hid yb
      have hw3:IntKind.i64.wrap ((j:Int)+1)=(j:Int)+1:=IntWalk.i64_in _ (by have:=LNB.out;omega)
      clear hcz hzj hzm hl1 hl2 hl3 hb6 yb haz
      subst hAz
      gi_wp2
      refine ⟨trivial,fun h=>(by cases h),(callsIn_wide.2 (Y1a sc ky zr zA Ap zs.length zc op.length cp zs op _ (HS.out.ext (Z0a ST5.out.y YB.out)) rfl rfl (RZ.out.ext YB.out) (PR.out.2.2.ext (Z0a ST5.out.y YB.out)) CZ.out.1 OO.out.2.2.2.2.2 CZ.out.2.1 CZ.out.2.2)).mono ?_⟩
      generalize hX:(actC ky ⟨zr,zs⟩ op).s=X
      rintro e w5 ⟨A5,c5,rfl,o5,y5⟩
      have Y5:=hid (Z0a YB.out y5)
      have sz5:=Y5.out.size
      have sz6:wr.heap.size<(wr.alloc (.cells #[.int .i32 zr,.slice zA zs.length zc] 41)).heap.size:=by simp
      have hbd:Bd<wr.heap.size:=by obtain ⟨_,_,_,h,_⟩:=ST5.out.d;exact Z0c h
      have GIVE:ClGive w0 w5 G2 Bd ⟨⟨zr,X⟩,A5,c5⟩:=⟨o5.base_le (by have:=ST5.out.y.size;omega),fun k hk=>by
       have h1:=(o5.wb_lt k hk).1
       exact ⟨fun hgk=>by have:=(HJG.out _ _ _ HJJ.out k hgk).1;omega,by omega⟩⟩
      have hjw:=HJ.out _ _ _ _ HJJ.out (Grow.of (F:=fun k=>k=Bd) Y5.out)
      obtain ⟨fn,tmps,assign,body,hy,hR⟩:=HY.out (n-1) _ _ ⟨⟨zr,X⟩,A5,c5⟩ w5 hjw GIVE (by
       have h1:=Y3R (l:=ky) (d:=Z0g d) OI.out
       rw [←HLAY.out] at h1
       have h2:=LN.out
       simp only [List.length_append,List.length_map,List.length_take,Z00] at h1 ⊢
       omega)
      clear GIVE
      gi_wp2
      refine ⟨fun h=>(by cases h),hR.mono ?_⟩
      rintro e w6 ⟨rfl,G3,hj3,g3⟩
      have hoffs:∀ k,G2 k→k≠Bd∧k≠Bs∧k≠Bx∧w0.heap.size≤k:=fun k hk=>(HJG.out _ _ _ HJJ.out k hk).2
      have r1:=(ST5.out.ext Y5.out).grow g3 hoffs
      have r2:=(g3.block b6 (Nat.lt_of_lt_of_le (Z0c B65.out) sz5) hnb).trans ((Y5.out.block b6 (Z0c B65.out)).trans B65.out)
      have r3:¬ G3 b6:=g3.out (Nat.lt_of_lt_of_le (Z0c B65.out) sz5) hnb
      have l1:=L1.out.ext Y5.out
      have r4:RdCl w6 w6.heap.size _ L:=⟨l1.1.grow g3 L2.out,fun z hz=>(l1.2 z hz).grow g3 (L3.out z hz)⟩
      have r5:=L2.out.grow l1.1 g3
      have r6:∀ z∈L,OffF G3 z.As z.c.s.length:=fun z hz=>(L3.out z hz).grow (l1.2 z hz) g3
      have hj4:J (Z1I ky ((osOf x).take i) (Z0g d)++((Z0g L).take (j+1)).map (fun c=>actC ky c op)) G3 w6:=by
       rw [ZJ.out,List.map_append,←List.append_assoc]
       have e7:(actC ky ⟨zr,zs⟩ op)=⟨zr,X⟩:=by rw [←hX];rfl
       simp only [List.map_cons,List.map_nil,e7]
       exact hj3
      clear hR hy hj3 g3 hjw
      gi_wp2
      gi_roundg (nl-(j+1))
      case measure=>have:=HG2.out;omega
      case rel=>exact ⟨j+1,G3,by omega,rfl,by go_num,hj4,r1,r2,r3,r4,r5,r6⟩
     ·have hjl:j=nl:=by omega
      have hlt2':¬ (j:Int)<(nl:Int):=by omega
      have hj8:J (Z1I ky ((osOf x).take (i+1)) (Z0g d)) G2 wr:=by
       have h1:=HJJ.out
       have e9:(Z0g L).take j=Z0g L:=List.take_of_length_le (by rw [Z00,LN.out];omega)
       rw [e9,HLAY.out] at h1
       rw [Z5z OI.out]
       exact h1
      have HJ8:=hid hj8
      clear hj8 hb6 hl1 hl2 hl3
      gi_wp2
      gi_roundg (nx-(i+1))
      case measure=>have:=HG.out;omega
      case rel=>exact ⟨i+1,G2,by omega,rfl,by go_num,HJ8.out,ST5.out⟩
   ·skip
    have hk1:tkN ⟨ok,on,or',os',op⟩=on.toNat:=by unfold tkN;rw [if_neg hk2]
    obtain ⟨k,hk⟩:∃ X,on.toNat=X:=⟨_,rfl⟩
    have hon:on=(k:Int)∧1≤k:=by
     rcases OO.out.1 with h|h|h
     ·exact absurd h.1 hk2
     ·obtain ⟨_,h2,_⟩:=h;simp only at h2;omega
     ·obtain ⟨_,h2,_⟩:=h;simp only at h2;omega
    have TK:=hid (Y6E OI.out)
    rw [hk1,hk] at TK
    have RS:Hid (d.drop (tks ((osOf x).take (i+1)))=(d.drop (tks ((osOf x).take i))).drop k):=hid (by rw [TK.out,List.drop_drop])
    obtain ⟨A7,n7,c7,h7,e7,f7,R7⟩:=ST2.out.d
    have hk7:k≤n7:=by
     have h1:=Y8v (x:=osOf x) (i+1)
     have h2:=HFIT.out
     rw [TK.out] at h1
     rw [e7,List.length_drop]
     omega
    obtain ⟨A8,hA8⟩:∃ X,advS A7 c7 k 2=X:=⟨_,rfl⟩
    obtain ⟨c8,hc8⟩:∃ X,c7-k=X:=⟨_,rfl⟩
    obtain ⟨n8,hn8⟩:∃ X,n7-k=X:=⟨_,rfl⟩
    obtain ⟨on',hon'⟩:=hon
    subst on'
    have sl1:∀ W,(Instr.slice 23 (.slice A7 n7 c7) (some (.int .i64 (k:Int))) none none).run Tryz.prog W=.ok (.slice A8 n8 c8) W:=Z9B Tryz.slCl Tryz.elCl Y3T rfl hA8 hn8 hc8 hk7 f7
    have sl2:∀ W,(Instr.slice 23 (.slice A7 n7 c7) none (some (.int .i64 (k:Int))) none).run Tryz.prog W=.ok (.slice A7 k c7) W:=sl_to (l:=k) Tryz.slCl Tryz.elCl Y3T rfl (by omega)
    have HN8:Hid (n8=((d.drop (tks ((osOf x).take i))).drop k).length∧n8≤c8):=hid ⟨by rw [List.length_drop,←e7];omega,by omega⟩
    have HR8:=hid (R7.from hA8 (by omega) (by omega))
    have HR7:=hid (R7.take k)
    have LNK:Hid (((d.drop (tks ((osOf x).take i))).take k).length=k):=hid (by rw [List.length_take,←e7];omega)
    have KB:Hid (k≤1000000):=hid (by have:=e7;rw [List.length_drop] at this;have:=ND.out;omega)
    have c2d:=Z2n h7
    have hf2:=Z0h h7 0
    have H7:=hid h7
    have NBD:Hid (Bd≠b6):=hid (by
     obtain ⟨_,_,_,h,_⟩:=ST.out.d
     have:=Z0c h
     omega)
    have YA:=hid ya
    clear hA8 hc8 hn8 R7 hk1 hk e7 f7 h7
    by_cases hk3:ok=3
    ·subst hk3
     gi_wp2
     have gs:=Z0t (w:=wr.alloc (.cells #[.int .u8 3,.int .i64 (k:Int),.slice Ar or'.length cr,.slice As os'.length cs,.slice Ap op.length cp] 36)) Bd 0 (.slice A8 n8 c8) (F:=fun k=>k=Bd) rfl 0
     have HJv0:=HJ.out _ _ _ _ HJ0.out ((Grow.of (F:=fun k=>k=Bd) YA.out).trans gs)
     have HD8:=Z0d (j:=0) H7.out (.slice A8 n8 c8)
     have STv0:EachSt w0 ((wr.alloc (.cells #[.int .u8 3,.int .i64 (k:Int),.slice Ar or'.length cr,.slice As os'.length cs,.slice Ap op.length cp] 36)).setCell ⟨Bd,0,none⟩ (.slice A8 n8 c8)) Bs Bd Bx sc (some ad) nx cx ((d.drop (tks ((osOf x).take i))).drop k):=
      ⟨ST2.out.y.trans (gs.below (B:=w0.heap.size) (fun k hk=>by rw [hk];exact m2) (by have:=ST2.out.y.size;exact this)),(gs.block Bs (Z0c ST2.out.s) ne1).trans ST2.out.s,(gs.block Bx (Z0c ST2.out.x) ne2).trans ST2.out.x,
       A8,n8,c8,by simpa using HD8,HN8.out.1,HN8.out.2,HR8.out⟩
     have B6v0:=(gs.block wr.heap.size (Z0c HB6.out) (fun e=>NBD.out (by rw [←hb6];exact e.symm))).trans HB6.out
     obtain ⟨v,hv⟩:∃ v,(wr.alloc (.cells #[.int .u8 3,.int .i64 (k:Int),.slice Ar or'.length cr,.slice As os'.length cs,.slice Ap op.length cp] 36)).setCell ⟨Bd,0,none⟩ (.slice A8 n8 c8)=v:=⟨_,rfl⟩
     rw [hv] at HJv0 STv0 B6v0 ⊢
     rw [hb6] at B6v0
     have HJv:=hid HJv0
     have STv:Hid (EachSt w0 v Bs Bd Bx sc (some ad) nx cx (d.drop (tks ((osOf x).take (i+1))))):=hid (by rw [RS.out];exact STv0)
     have B6v:=hid B6v0
     have NB6:Hid (¬ G b6):=hid (fun h=>by have:=(HJG0.out b6 h).1;omega)
     have G0L:∀ k,G k→w0.heap.size≤k:=fun k hk=>(HJG0.out k hk).2.2.2.2
     have hj8:J (Z1I ky ((osOf x).take (i+1)) (Z0g d)) G v:=by
      have e9:layC ⟨3,(k:Int),or',os',op⟩ ((Z0g d).drop (tks ((osOf x).take i)))=[]:=by
       show (if (3:Int)=2 then _ else if (3:Int)=1 then _ else [])=_
       rw [if_neg (by decide),if_neg (by decide)]
      rw [Z5z OI.out,e9,List.map_nil,List.append_nil]
      exact HJv.out
     have HJ8:=hid hj8
     clear hj8 HR7 LNK
     clear z0 z1 z2 z3 z4 q0 q1 q2 q3 q4 ST2 hb6 RS ST HJ0 HB6 gs HJv0 HD8 STv0 B6v0 hv c2d hf2 H7 NBD YA sl1 sl2 HN8 HR8 TK G0L ya
     gi_wp2
     gi_loopg [43] 0 (fun g s43 wz=>g=0∧s43=.int .i64 0∧wz=v)
     case atStart=>exact ⟨rfl,rfl,rfl⟩
     case round=>
      obtain ⟨_,rfl,rfl⟩:=hrel
      gi_wp2
      gi_roundg (nx-(i+1))
      case measure=>have:=HG.out;omega
      case rel=>exact ⟨i+1,G,by omega,rfl,by go_num,HJ8.out,STv.out⟩
    ·have hk4:ok=1:=by
      rcases OO.out.1 with h|h|h
      ·exact absurd h.1 hk2
      ·exact absurd h.1 hk3
      ·exact h.1
     subst hk4
     gi_wp2
     gi_region
     have gs:=Z0t (w:=wr.alloc (.cells #[.int .u8 1,.int .i64 (k:Int),.slice Ar or'.length cr,.slice As os'.length cs,.slice Ap op.length cp] 36)) Bd 0 (.slice A8 n8 c8) (F:=fun k=>k=Bd) rfl 0
     have HJv0:=HJ.out _ _ _ _ HJ0.out ((Grow.of (F:=fun k=>k=Bd) YA.out).trans gs)
     have HD8:=Z0d (j:=0) H7.out (.slice A8 n8 c8)
     have STv0:EachSt w0 ((wr.alloc (.cells #[.int .u8 1,.int .i64 (k:Int),.slice Ar or'.length cr,.slice As os'.length cs,.slice Ap op.length cp] 36)).setCell ⟨Bd,0,none⟩ (.slice A8 n8 c8)) Bs Bd Bx sc (some ad) nx cx ((d.drop (tks ((osOf x).take i))).drop k):=
      ⟨ST2.out.y.trans (gs.below (B:=w0.heap.size) (fun k hk=>by rw [hk];exact m2) (by have:=ST2.out.y.size;exact this)),(gs.block Bs (Z0c ST2.out.s) ne1).trans ST2.out.s,(gs.block Bx (Z0c ST2.out.x) ne2).trans ST2.out.x,
       A8,n8,c8,by simpa using HD8,HN8.out.1,HN8.out.2,HR8.out⟩
     have B6v0:=(gs.block wr.heap.size (Z0c HB6.out) (fun e=>NBD.out (by rw [←hb6];exact e.symm))).trans HB6.out
     obtain ⟨v,hv⟩:∃ v,(wr.alloc (.cells #[.int .u8 1,.int .i64 (k:Int),.slice Ar or'.length cr,.slice As os'.length cs,.slice Ap op.length cp] 36)).setCell ⟨Bd,0,none⟩ (.slice A8 n8 c8)=v:=⟨_,rfl⟩
     rw [hv] at HJv0 STv0 B6v0 ⊢
     rw [hb6] at B6v0
     have HJv:=hid HJv0
     have STv:Hid (EachSt w0 v Bs Bd Bx sc (some ad) nx cx (d.drop (tks ((osOf x).take (i+1))))):=hid (by rw [RS.out];exact STv0)
     have B6v:=hid B6v0
     have NB6:Hid (¬ G b6):=hid (fun h=>by have:=(HJG0.out b6 h).1;omega)
     have G0L:∀ k,G k→w0.heap.size≤k:=fun k hk=>(HJG0.out k hk).2.2.2.2
     have ydr:Below v.heap.size v v.drew:=Z0U (Below.refl _ _)
     have HJw:=hid (HJ.out _ _ _ _ HJv.out (Grow.of (F:=fun k=>k=Bd) ydr))
     have STw:=hid (STv.out.ext ydr)
     have B6w:=hid ((ydr.block b6 (Z0c B6v.out)).trans B6v.out)
     clear HJv STv B6v
     obtain ⟨vd,hvd⟩:∃ vd,v.drew=vd:=⟨_,rfl⟩
     rw [hvd] at HJw STw B6w ⊢
     have HJv:=HJw
     have STv:=STw
     have B6v:=B6w
     clear ydr hvd HJw STw B6w
     obtain ⟨L,hL⟩:∃ L:List ClS,(d.drop (tks ((osOf x).take i))).take k=L:=⟨_,rfl⟩
     have HLAY:Hid (Z0g L=layC ⟨1,(k:Int),or',os',op⟩ ((Z0g d).drop (tks ((osOf x).take i)))):=hid (by
      show _=(if (1:Int)=2 then _ else if (1:Int)=1 then ((Z0g d).drop (tks ((osOf x).take i))).take (k:Int).toNat else [])
      rw [if_neg (by decide),if_pos rfl,←hL,Y2h,Z7b];rfl)
     have CAPS:Hid (∀ z∈L,z.c.s.length≤100000000∧z.c.s.length≤z.cs∧z.cs≤maxLen):=hid (fun z hz=>by
      rw [←hL] at hz
      exact HCAP.out z (List.mem_of_mem_drop (List.mem_of_mem_take hz)))
     rw [hL] at HR7 LNK
     have LR:Hid (RdCl vd vd.heap.size A7 L∧OffF G A7 L.length∧∀ z∈L,OffF G z.As z.c.s.length):=hid ⟨HR7.out.ext STv.out.y,HR7.out.1.offF G0L,fun z hz=>(HR7.out.2 z hz).offF G0L⟩
     obtain ⟨nl,hnl⟩:∃ X:Nat,k=X:=⟨_,rfl⟩
     have LN:Hid (L.length=nl):=hid (by rw [LNK.out,hnl])
     have LNB:Hid (nl≤100000000):=hid (by have:=KB.out;omega)
     have KN:Hid (k=nl):=hid hnl
     subst hnl
     clear hL HR7 LNK
     clear z0 z1 z2 z3 z4 q0 q1 q2 q3 q4 ST2 hb6 RS ST HJ0 HB6 gs HJv0 HD8 STv0 B6v0 hv c2d hf2 H7 NBD YA sl1 sl2 HN8 HR8 TK G0L ya
     gi_wp2
     gi_loopg [43] k (fun g s43 wv => ∃ (j:Nat) (G2:Nat→Prop),j≤k∧g=k-j∧s43=.int .i64 (j:Int)∧J (Z1I ky ((osOf x).take i) (Z0g d)++((Z0g L).take j).map (fun c=>actC ky c op)) G2 wv∧EachSt w0 wv Bs Bd Bx sc (some ad) nx cx (d.drop (tks ((osOf x).take (i+1)))) ∧
      wv.heap[b6]? = some (.cells #[.int .u8 1,.int .i64 (k:Int),.slice Ar or'.length cr,.slice As os'.length cs,.slice Ap op.length cp] 36 (0,0))∧(¬ G2 b6)∧RdCl wv wv.heap.size A7 L∧OffF G2 A7 L.length∧(∀ z∈L,OffF G2 z.As z.c.s.length))
     case atStart=>exact ⟨0,G,by omega,rfl,rfl,by rw [List.take_zero,List.map_nil,List.append_nil];exact HJv.out,STv.out,B6v.out,NB6.out,LR.out.1,LR.out.2.1,LR.out.2.2⟩
     case round=>
      obtain ⟨j,G2,hj,hg2,rfl,hjj,hst2,hb6,hnb,hl1,hl2,hl3⟩:=hrel
      have HG2:=hid hg2
      have HJJ:=hid hjj
      have ST5:=hid hst2
      have B65:=hid hb6
      clear hg2 hjj hst2
      by_cases hlt2:j<k
      ·have hlt2':(j:Int)<(k:Int):=by omega
       obtain ⟨az,z,hAz,haz,_,hzj,hcz⟩:=hl1.1.el (i:=j) (by rw [LN.out];exact hlt2)
       have hzm:=List.mem_of_getElem? hzj
       have CZ:=hid (CAPS.out z hzm)
       have RZ:=hid (hl1.2 z hzm)
       have ZJ:Hid ((Z0g L).take (j+1)=(Z0g L).take j++[z.c]):=hid (by rw [List.take_add_one,Z7V hzj];rfl)
       have L1:=hid hl1
       have L2:=hid hl2
       have L3:=hid hl3
       obtain ⟨⟨zr,zs⟩,zA,zc⟩:=z
       obtain ⟨t0,t1⟩:=Z1E hcz
       have yb:=Z0b wr (.cells #[.int .i32 zr,.slice zA zs.length zc] 41)
       have c1s:=Z2n (ST5.out.ext yb).s
       obtain ⟨p0,p1,p2,p3,p4⟩:=Z0x ((yb.block b6 (Z0c B65.out)).trans B65.out)
       have YB:=hid yb
       have hw3:IntKind.i64.wrap ((j:Int)+1)=(j:Int)+1:=IntWalk.i64_in _ (by have:=LNB.out;omega)
       clear hcz hzj hzm hl1 hl2 hl3 hb6 yb haz
       subst hAz
       gi_wp2
       refine ⟨trivial,fun h=>(by cases h),(callsIn_wide.2 (Y1a sc ky zr zA Ap zs.length zc op.length cp zs op _ (HS.out.ext (Z0a ST5.out.y YB.out)) rfl rfl (RZ.out.ext YB.out) (PR.out.2.2.ext (Z0a ST5.out.y YB.out)) CZ.out.1 OO.out.2.2.2.2.2 CZ.out.2.1 CZ.out.2.2)).mono ?_⟩
       generalize hX:(actC ky ⟨zr,zs⟩ op).s=X
       rintro e w5 ⟨A5,c5,rfl,o5,y5⟩
       have Y5:=hid (Z0a YB.out y5)
       have sz5:=Y5.out.size
       have sz6:wr.heap.size<(wr.alloc (.cells #[.int .i32 zr,.slice zA zs.length zc] 41)).heap.size:=by simp
       have hbd:Bd<wr.heap.size:=by obtain ⟨_,_,_,h,_⟩:=ST5.out.d;exact Z0c h
       have GIVE:ClGive w0 w5 G2 Bd ⟨⟨zr,X⟩,A5,c5⟩:=⟨o5.base_le (by have:=ST5.out.y.size;omega),fun k hk=>by
        have h1:=(o5.wb_lt k hk).1
        exact ⟨fun hgk=>by have:=(HJG.out _ _ _ HJJ.out k hgk).1;omega,by omega⟩⟩
       have hjw:=HJ.out _ _ _ _ HJJ.out (Grow.of (F:=fun k=>k=Bd) Y5.out)
       obtain ⟨fn,tmps,assign,body,hy,hR⟩:=HY.out (n-1) _ _ ⟨⟨zr,X⟩,A5,c5⟩ w5 hjw GIVE (by
        have h1:=Y3R (l:=ky) (d:=Z0g d) OI.out
        rw [←HLAY.out] at h1
        have h2:=LN.out
        simp only [List.length_append,List.length_map,List.length_take,Z00] at h1 ⊢
        omega)
       clear GIVE
       gi_wp2
       refine ⟨fun h=>(by cases h),hR.mono ?_⟩
       rintro e w6 ⟨rfl,G3,hj3,g3⟩
       have hoffs:∀ k,G2 k→k≠Bd∧k≠Bs∧k≠Bx∧w0.heap.size≤k:=fun k hk=>(HJG.out _ _ _ HJJ.out k hk).2
       have r1:=(ST5.out.ext Y5.out).grow g3 hoffs
       have r2:=(g3.block b6 (Nat.lt_of_lt_of_le (Z0c B65.out) sz5) hnb).trans ((Y5.out.block b6 (Z0c B65.out)).trans B65.out)
       have r3:¬ G3 b6:=g3.out (Nat.lt_of_lt_of_le (Z0c B65.out) sz5) hnb
       have l1:=L1.out.ext Y5.out
       have r4:RdCl w6 w6.heap.size _ L:=⟨l1.1.grow g3 L2.out,fun z hz=>(l1.2 z hz).grow g3 (L3.out z hz)⟩
       have r5:=L2.out.grow l1.1 g3
       have r6:∀ z∈L,OffF G3 z.As z.c.s.length:=fun z hz=>(L3.out z hz).grow (l1.2 z hz) g3
       have hj4:J (Z1I ky ((osOf x).take i) (Z0g d)++((Z0g L).take (j+1)).map (fun c=>actC ky c op)) G3 w6:=by
        rw [ZJ.out,List.map_append,←List.append_assoc]
        have e7:(actC ky ⟨zr,zs⟩ op)=⟨zr,X⟩:=by rw [←hX];rfl
        simp only [List.map_cons,List.map_nil,e7]
        exact hj3
       clear hR hy hj3 g3 hjw
       gi_wp2
       gi_roundg (k-(j+1))
       case measure=>have:=HG2.out;omega
       case rel=>exact ⟨j+1,G3,by omega,rfl,by go_num,hj4,r1,r2,r3,r4,r5,r6⟩
      ·have hjl:j=k:=by omega
       have hlt2':¬ (j:Int)<(k:Int):=by omega
       have hj8:J (Z1I ky ((osOf x).take (i+1)) (Z0g d)) G2 wr:=by
        have h1:=HJJ.out
        have e9:(Z0g L).take j=Z0g L:=List.take_of_length_le (by rw [Z00,LN.out];omega)
        rw [e9,HLAY.out] at h1
        rw [Z5z OI.out]
        exact h1
       have HJ8:=hid hj8
       clear hj8 hb6 hl1 hl2 hl3
       gi_wp2
       gi_roundg (nx-(i+1))
       case measure=>have:=HG.out;omega
       case rel=>exact ⟨i+1,G2,by omega,rfl,by go_num,HJ8.out,ST5.out⟩
  ·have hin:nx=i:=by omega
   subst hin
   have hlt':¬ (nx:Int)<(nx:Int):=by omega
   have TX:(osOf x).take nx=osOf x:=List.take_of_length_le (by unfold osOf;rw [List.length_map];have:=NX.out;omega)
   rw [TX] at HJ0 ST
   obtain ⟨A7,n7,c7,h7,e7,f7,R7⟩:=ST.out.d
   have c2d:=Z2n h7
   have HBD:Hid (Bd<wr.heap.size):=hid (Z0c h7)
   have HJG0:=hid (fun k hk=>HJG.out _ _ _ HJ0.out k hk:∀ k,G k→k<wr.heap.size∧k≠Bd∧k≠Bs∧k≠Bx∧w0.heap.size≤k)
   obtain ⟨r,hr⟩:∃ X,d.drop (tks (osOf x))=X:=⟨_,rfl⟩
   have CR:Hid (∀ z∈r,z.c.s.length≤100000000):=hid (fun z hz=>by rw [←hr] at hz;exact (HCAP.out z (List.mem_of_mem_drop hz)).1)
   have DR:Hid (Z3h ky (osOf x) (Z0g d)=Z1I ky (osOf x) (Z0g d)++Z0g r):=hid (by rw [Z6q,←hr,Z7b])
   have B7:Hid (n7≤1000000):=hid (by have:=ND.out;rw [e7,List.length_drop];omega)
   rw [hr] at e7 R7
   have E7:=hid e7
   have HR7:=hid (R7.ext ST.out.y)
   have YST:=hid ST.out.y
   clear h7 e7 f7 R7 hr TX ST
   gi_wp2
   refine ⟨trivial,fun h=>(by cases h),(callsIn_wide.2 (Z7X A7 n7 c7 r wr E7.out HR7.out (by have:=B7.out;omega) CR.out)).mono ?_⟩
   rintro e v ⟨Al,cl,L,rfl,hL,oL,pL,yL⟩
   have YL:=hid yL
   have HJv:Hid (J (Z1I ky (osOf x) (Z0g d)) G v):=hid (HJ.out _ _ _ _ HJ0.out (Grow.of (F:=fun k=>k=Bd) YL.out))
   have LR:Hid (RdCs v v.heap.size Al L∧OffF G Al L.length∧∀ z∈L,ClGive w0 v G Bd z):=hid ⟨oL.rd ClS.enc_len,
    oL.offF ClS.enc_len rfl (fun k hk hG=>by have:=(oL.wb_lt k hk).1;have:=(HJG0.out k hG).1;omega),
    fun z hz=>⟨(pL z hz).1.base_le (by exact YST.out.size),fun k hk=>by
     have h1:=((pL z hz).1.wb_lt k hk).1
     exact ⟨fun hG=>by have:=(HJG0.out k hG).1;omega,by have:=HBD.out;omega⟩⟩⟩
   have DL:Hid (Z3h ky (osOf x) (Z0g d)=Z1I ky (osOf x) (Z0g d)++Z0g L):=hid (by rw [hL];exact DR.out)
   obtain ⟨nl,hnl⟩:∃ X,L.length=X:=⟨_,rfl⟩
   have LN:=hid hnl
   have LNB:Hid (nl≤100000000):=hid (by rw [←hnl,←Z00 L,hL,Z00,←E7.out];have:=B7.out;omega)
   rw [hnl]
   clear oL pL yL hL hnl c2d HR7 HJ0 HJG0
   gi_wp2
   gi_loopg [60] nl (fun g s60 wv => ∃ (j:Nat) (G2:Nat→Prop),j≤nl∧g=nl-j∧s60=.int .i64 (j:Int)∧J (Z1I ky (osOf x) (Z0g d)++(Z0g L).take j) G2 wv∧Below w0.heap.size w0 wv∧RdCs wv wv.heap.size Al L∧OffF G2 Al L.length∧(∀ z∈L,ClGive w0 wv G2 Bd z))
   case atStart=>exact ⟨0,G,by omega,rfl,rfl,by rw [List.take_zero,List.append_nil];exact HJv.out,YST.out.trans (YL.out.mono YST.out.size),LR.out.1,LR.out.2.1,LR.out.2.2⟩
   case round=>
    obtain ⟨j,G2,hj,hg2,rfl,hjj,hyy,hl1,hl2,hl3⟩:=hrel
    have HG2:=hid hg2
    have HJJ:=hid hjj
    have YY:=hid hyy
    clear hg2 hjj hyy
    by_cases hlt2:j<nl
    ·have hlt2':(j:Int)<(nl:Int):=by omega
     obtain ⟨az,z,hAz,haz,_,hzj,hcz⟩:=hl1.el (i:=j) (by rw [LN.out];exact hlt2)
     have hzm:=List.mem_of_getElem? hzj
     have GZ:=hid (hl3 z hzm)
     have ZJ:Hid ((Z0g L).take (j+1)=(Z0g L).take j++[z.c]):=hid (by rw [List.take_add_one,Z7V hzj];rfl)
     have L1:=hid hl1
     have L2:=hid hl2
     have L3:=hid hl3
     obtain ⟨⟨zr,zs⟩,zA,zc⟩:=z
     obtain ⟨t0,t1⟩:=Z1E hcz
     have YB:=hid (Z0b wr (.cells #[.int .i32 zr,.slice zA zs.length zc] 41))
     have hw3:IntKind.i64.wrap ((j:Int)+1)=(j:Int)+1:=IntWalk.i64_in _ (by have:=LNB.out;omega)
     have GIVE:ClGive w0 (wr.alloc (.cells #[.int .i32 zr,.slice zA zs.length zc] 41)) G2 Bd ⟨⟨zr,zs⟩,zA,zc⟩:=⟨GZ.out.ow.keep fun k hk=>YB.out.block k (GZ.out.ow.wb_lt k hk).2,GZ.out.off⟩
     have hjw:=HJ.out _ _ _ _ HJJ.out (Grow.of (F:=fun k=>k=Bd) YB.out)
     obtain ⟨fn,tmps,assign,body,hy,hR⟩:=HY.out (n-1) _ _ ⟨⟨zr,zs⟩,zA,zc⟩ (wr.alloc (.cells #[.int .i32 zr,.slice zA zs.length zc] 41)) hjw GIVE (by
      rw [DL.out]
      have h2:=LN.out
      simp only [List.length_append,List.length_take,Z00]
      omega)
     clear GIVE hcz hzj hzm hl1 hl2 hl3 haz
     subst hAz
     gi_wp2
     refine ⟨fun h=>(by cases h),hR.mono ?_⟩
     rintro e w6 ⟨rfl,G3,hj3,g3⟩
     have hoffs:∀ k,G2 k→w0.heap.size≤k:=fun k hk=>(HJG.out _ _ _ HJJ.out k hk).2.2.2.2
     have r1:Below w0.heap.size w0 w6:=(YY.out.trans (YB.out.mono YY.out.size)).trans (g3.below hoffs (Nat.le_trans YY.out.size YB.out.size))
     have l1:=L1.out.ext YB.out
     have r4:=l1.grow g3 L2.out
     have r5:=L2.out.grow l1 g3
     have r6:∀ z∈L,ClGive w0 w6 G3 Bd z:=fun z hz=>by
      have h1:=L3.out z hz
      have h2:=h1.ow.keep (w':=wr.alloc (.cells #[.int .i32 zr,.slice zA zs.length zc] 41)) fun k hk=>YB.out.block k (h1.ow.wb_lt k hk).2
      exact ⟨h2.keep fun k hk=>g3.block k (h2.wb_lt k hk).2 (h1.off k hk).1,fun k hk=>⟨g3.out (h2.wb_lt k hk).2 (h1.off k hk).1,(h1.off k hk).2⟩⟩
     have hj4:J (Z1I ky (osOf x) (Z0g d)++(Z0g L).take (j+1)) G3 w6:=by
      rw [ZJ.out,←List.append_assoc]
      exact hj3
     clear hR hy hj3 g3 hjw hoffs l1
     gi_wp2
     gi_roundg (nl-(j+1))
     case measure=>have:=HG2.out;omega
     case rel=>exact ⟨j+1,G3,by omega,rfl,by go_num,hj4,r1,r4,r5,r6⟩
    ·have hjl:j=nl:=by omega
     have hlt2':¬ (j:Int)<(nl:Int):=by omega
     have hj8:J (Z3h ky (osOf x) (Z0g d)) G2 wr:=by
      have h1:=HJJ.out
      have e9:(Z0g L).take j=Z0g L:=List.take_of_length_le (by rw [Z00,LN.out];omega)
      rw [e9,←DL.out] at h1
      exact h1
     have HJ8:=hid hj8
     clear hj8 hl1 hl2 hl3
     gi_wp2
     first|go_end0|(refine bodyPost_ret (results_none rfl _ _ _) rfl ?_)
     exact ⟨⟨_,rfl⟩,G2,HJ8.out⟩
end Go.Proofs.YtnmedachaeanbaaGreatDoor
