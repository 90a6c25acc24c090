/- Merged texts. -/
import Derived.WalkKit
import Derived.WalkSpells
import Derived.WalkLawsBesides
import Derived.BigQuiet
import Derived.Deep.QuietTactic
import Derived.Deep.AppendLies
import Derived.Deep.Draws
import Derived.Lib.Hide
import Derived.IntWalk
import Derived.Test.YtnmedachaeanbaaGreatDoorProg
import Derived.KernelRfl
namespace Go.Proofs.YtnmedachaeanbaaGreatDoor
open Go.RowKit
def CellsAt (w:World) (p:Addr) (cs:List Value):Prop := ∀ j u,cs[j]? = some u→w.cell? (p.add j)=some u
theorem Z0R (a:Addr) (n:Nat):(a.add n).block=a.block:=by unfold Addr.add;split<;>rfl
theorem Z37 (a:Addr) (i j:Nat):(a.add i).add j=a.add (i+j):=by
 unfold Addr.add
 by_cases hi:i=0<;>by_cases hj:j=0<;>simp [hi,hj,Nat.add_assoc]
theorem Z0n (a:Addr):a.add 0=a:=by unfold Addr.add;simp
def Rd {α:Type} (enc:α→List Value) (size:Nat) (w:World) (B:Nat) (A:Option Addr) (l:List α):Prop:=
 0<l.length→∃ ad,A=some ad∧ad.block<B∧∀ i (h:i<l.length),CellsAt w (ad.add (i*size)) (enc l[i])
def wb:Value→Option Nat
 | .slice (some a) _ (_+1)=>some a.block
 | _=>none
def Ow {α:Type} (enc:α→List Value) (size:Nat) (e:TypeId) (w:World) (base:Nat) (v:Value) (l:List α):Prop:=
 (l=[]∧∃ A,v=.slice A 0 0)∨w.ownsRow base e size v l.length (l.flatMap enc)
theorem Z0b (w:World) (o:Obj):Below w.heap.size w (w.alloc o):=(Below.refl _ _).alloc (Nat.le_refl _) o
theorem Z0m (w:World) (n:Nat):Below w.heap.size w (w.drewN n):=⟨rfl,rfl,rfl,Nat.le_refl _,fun _ _=>rfl⟩
theorem Z0a {a b c:World} (h:Below a.heap.size a b) (h':Below b.heap.size b c):Below a.heap.size a c:=h.trans (h'.mono h.size)
section
variable {α:Type} {enc:α→List Value} {size:Nat} {e:TypeId} {w w' w0:World} {B B' base:Nat} {A:Option Addr} {l m:List α} {v:Value}
theorem CellsAt.keep {p:Addr} {cs:List Value} (h:CellsAt w p cs) (hk:∀ q:Addr,q.block=p.block→w'.cell? q=w.cell? q):CellsAt w' p cs:=
 fun j u hu=>(hk _ (Z0R p j)).trans (h j u hu)
theorem Rd.nil:Rd enc size w B A ([]:List α):=fun h=>absurd h (by simp)
theorem Rd.at_ (h:Rd enc size w B A l) {i:Nat} (hi:i<l.length):∃ ad,A=some ad∧ad.block<B∧CellsAt w (ad.add (i*size)) (enc l[i]):=by
 obtain ⟨ad,e,hb,hc⟩:=h (by omega)
 exact ⟨ad,e,hb,hc i hi⟩
theorem Rd.el (h:Rd enc size w B A l) {i:Nat} (hi:i<l.length):∃ ad a,A=some ad∧ad.block<B∧l.drop i=a::l.drop (i+1)∧l[i]? = some a∧CellsAt w (ad.add (i*size)) (enc a):=by
 obtain ⟨ad,e,hb,hc⟩:=h (by omega)
 exact ⟨ad,l[i],e,hb,List.drop_eq_getElem_cons hi,List.getElem?_eq_getElem hi,hc i hi⟩
theorem Rd.keep (h:Rd enc size w B A l) (hk:∀ p:Addr,p.block<B→w'.cell? p=w.cell? p):Rd enc size w' B A l:=fun hl=>by
 obtain ⟨ad,e,hb,hc⟩:=h hl
 exact ⟨ad,e,hb,fun i hi=>(hc i hi).keep fun q hq=>hk q (by rw [hq,Z0R];exact hb)⟩
theorem Rd.more (h:Rd enc size w B A l) (hB:B≤B'):Rd enc size w B' A l:=fun hl=>by
 obtain ⟨ad,e,hb,hc⟩:=h hl
 exact ⟨ad,e,by omega,hc⟩
theorem Rd.below {B'':Nat} (h:Rd enc size w B A l) (hb:Below B'' w w') (hB:B≤B''):Rd enc size w' B A l:=h.keep fun _ hp=>hb.cell (by omega)
theorem Rd.drewN (h:Rd enc size w B A l) (k:Nat):Rd enc size (w.drewN k) B A l:=h
theorem Rd.ext (h:Rd enc size w w.heap.size A l) (hb:Below w.heap.size w w'):Rd enc size w' w'.heap.size A l:=(h.below hb (Nat.le_refl _)).more hb.size
theorem Rd.cut (h:Rd enc size w B A l) {k cap:Nat} (hk:k≤l.length) (hc:l.length≤cap) :
 Rd enc size w B (if cap=k then A else A.map (·.add (k*size))) (l.drop k):=fun hn=>by
 rw [List.length_drop] at hn
 obtain ⟨ad,rfl,hb,hcell⟩:=h (by omega)
 rw [if_neg (by omega)]
 refine ⟨ad.add (k*size),rfl,by rw [Z0R];exact hb,fun i hi=>?_⟩
 rw [List.length_drop] at hi
 have:=hcell (k+i) (by omega)
 rw [Z37,←Nat.add_mul]
 simpa using this
theorem Rd.take (h:Rd enc size w B A l) (k:Nat):Rd enc size w B A (l.take k):=fun hn=>by
 rw [List.length_take] at hn
 obtain ⟨ad,rfl,hb,hcell⟩:=h (by omega)
 refine ⟨ad,rfl,hb,fun i hi=>?_⟩
 rw [List.length_take] at hi
 have:=hcell i (by omega)
 simpa using this
theorem Z38 (hs:∀ a,(enc a).length=size):∀ (l:List α) (i j:Nat) (u:Value) (h:i<l.length),(enc l[i])[j]? = some u→(l.flatMap enc)[i*size+j]? = some u
 | [],i,j,u,h,_=>absurd h (by simp)
 | a::l,0,j,u,_,hu=>by
   have hj:j<(enc a).length:=(List.getElem?_eq_some_iff.1 hu).1
   simp only [List.flatMap_cons,Nat.zero_mul,Nat.zero_add]
   rw [List.getElem?_append_left hj]
   simpa using hu
 | a::l,i+1,j,u,h,hu=>by
   have ih:=Z38 hs l i j u (by simpa using h) (by simpa using hu)
   simp only [List.flatMap_cons]
   rw [List.getElem?_append_right (by rw [hs,Nat.add_mul];omega),hs,show (i+1)*size+j-size=i*size+j by rw [Nat.add_mul];omega]
   exact ih
theorem Z39 (hs:∀ a,(enc a).length=size) (l:List α):(l.flatMap enc).length=l.length*size:=by
 induction l with
 | nil=>simp
 | cons a l ih=>simp [List.flatMap_cons,hs,ih,Nat.add_mul,Nat.add_comm]
theorem Rd.flat {ad:Addr} (hs:∀ a,(enc a).length=size) (h:Rd enc size w B (some ad) l):∀ j u,(l.flatMap enc)[j]? = some u→w.cell? (ad.add j)=some u:=by
 intro j u hu
 have hj:j<l.length*size:=by rw [←Z39 hs];exact (List.getElem?_eq_some_iff.1 hu).1
 have hz:0<size:=by rcases Nat.eq_zero_or_pos size with h0|h0; · subst h0;simp at hj
                    ·exact h0
 have hi:j / size<l.length:=by rw [Nat.div_lt_iff_lt_mul hz];exact hj
 obtain ⟨ad',e,_,hc⟩:=h (Nat.lt_of_le_of_lt (Nat.zero_le _) hi)
 injection e with e;subst e
 have hm:j % size<size:=Nat.mod_lt _ hz
 have hcell:=hc (j / size) hi (j % size) ((enc l[j / size])[j % size]'(by rw [hs];exact hm)) (List.getElem?_eq_getElem _)
 have hf:=Z38 hs l (j / size) (j % size) _ hi (List.getElem?_eq_getElem (by rw [hs];exact hm))
 have e1:j / size*size+j % size=j:=Nat.div_add_mod' j size
 rw [e1] at hf
 rw [Z37,e1] at hcell
 rw [hcell];rw [hf] at hu;exact hu
theorem Rd.new (hs:∀ a,(enc a).length=size) (w:World) (e:TypeId) (l:List α) {cs:Array Value} (hc:cs.toList=l.flatMap enc) {b:Nat} (hb:b=w.heap.size) :
 Rd enc size (w.alloc (.cells cs e)) (w.alloc (.cells cs e)).heap.size (some ⟨b,0,none⟩) l:=by
 subst hb
 intro _
 refine ⟨_,rfl,by simp,fun i hi j u hu=>?_⟩
 have hf:=Z38 hs l i j u hi hu
 rw [←hc] at hf
 have hh:=heap_alloc_new w (.cells cs e)
 rw [Z37]
 unfold Addr.add
 split
 ·rename_i h0
  simp only [World.cell?,hh]
  rw [h0] at hf
  simpa using hf
 ·simp only [World.cell?,hh]
  simpa using hf
theorem Ow.nil (w:World) (base:Nat):Ow enc size e w base (.slice none 0 0) ([]:List α):=.inl ⟨rfl,_,rfl⟩
theorem Ow.empty (w:World) (base:Nat) (A:Option Addr):Ow enc size e w base (.slice A 0 0) ([]:List α):=.inl ⟨rfl,_,rfl⟩
theorem Ow.form (h:Ow enc size e w base v l):∃ A c,v=.slice A l.length c∧l.length≤c∧c≤maxLen:=by
 rcases h with ⟨rfl,A,rfl⟩ | ⟨_,⟨rfl,h⟩ | ⟨g,cap,cur,rfl,_,_,h1,h2,_⟩⟩
 ·exact ⟨A,0,rfl,Nat.le_refl _,Nat.zero_le _⟩
 ·exact ⟨none,0,by rw [h],by omega,Nat.zero_le _⟩
 ·exact ⟨_,_,rfl,h1,h2⟩
theorem Ow.wb_lt (h:Ow enc size e w base v l):∀ k,wb v=some k→base≤k∧k<w.heap.size:=by
 intro k hk
 rcases h with ⟨rfl,A,rfl⟩ | ⟨_,⟨rfl,h⟩ | ⟨g,cap,cur,rfl,hb,hg,_⟩⟩
 ·cases A<;>simp [wb] at hk
 ·simp [wb] at hk
 ·cases cap with
  | zero=>simp [wb] at hk
  | succ c=>
    simp [wb] at hk
    subst hk
    refine ⟨hb,?_⟩
    rcases Nat.lt_or_ge g w.heap.size with hlt|hge
    ·exact hlt
    ·rw [Array.getElem?_eq_none hge] at hg;cases hg
theorem Ow.rd {n c:Nat} (hs:∀ a,(enc a).length=size) (h:Ow enc size e w base (.slice A n c) l):Rd enc size w w.heap.size A l:=by
 intro hl
 rcases h with ⟨rfl,_⟩|h
 ·simp at hl
 ·have hl':=h.lt
  have hcells:∀ g,(Value.slice A n c).ownBlock=some g→_:=fun g hg=>h.cells (g:=g) hg
  obtain ⟨h1,⟨hv,h0⟩ | ⟨g,cap,cur,hv,_⟩⟩:=h
  ·omega
  ·injection hv with hA _ _
   subst hA
   refine ⟨_,rfl,(hl' g (by simp [Value.ownBlock])).2,fun i hi j u hu=>?_⟩
   rw [Z37]
   exact hcells g (by simp [Value.ownBlock]) _ u (Z38 hs l i j u hi hu)
theorem Ow.base_le (h:Ow enc size e w base v l) (hb:B≤base):Ow enc size e w B v l:=by
 rcases h with h | ⟨h1,h | ⟨g,cap,cur,hv,hbb,r⟩⟩
 ·exact .inl h
 ·exact .inr ⟨h1,.inl h⟩
 ·exact .inr ⟨h1,.inr ⟨g,cap,cur,hv,by omega,r⟩⟩
theorem Ow.keep (h:Ow enc size e w base v l) (hk:∀ k,wb v=some k→w'.heap[k]? = w.heap[k]?):Ow enc size e w' base v l:=by
 rcases h with h | ⟨h1,h | ⟨g,cap,cur,rfl,hbb,hg,hn,hm,hc,ht⟩⟩
 ·exact .inl h
 ·exact .inr ⟨h1,.inl h⟩
 ·cases cap with
  | zero=>exact .inl ⟨List.eq_nil_of_length_eq_zero (by omega),_,by rw [show l.length=0 by omega]⟩
  | succ c=>exact .inr ⟨h1,.inr ⟨g,c+1,cur,rfl,hbb,(hk g (by simp [wb])).trans hg,hn,hm,hc,ht⟩⟩
theorem Ow.drewN (h:Ow enc size e w base v l) (n:Nat):Ow enc size e (w.drewN n) base v l:=h
theorem Ow.drew (h:Ow enc size e w base v l):Ow enc size e w.drew base v l:=h
theorem Ow.alloc (h:Ow enc size e w base v l) (o:Obj):Ow enc size e (w.alloc o) base v l:=
 h.keep fun k hk=>Below.heap_alloc w o k (h.wb_lt k hk).2
theorem Ow.below (h:Ow enc size e w base v l) (hb:Below B w w') (hB:w.heap.size≤B):Ow enc size e w' base v l:=
 h.keep fun k hk=>hb.block k (Nat.lt_of_lt_of_le (h.wb_lt k hk).2 hB)
theorem Ow.setCell (h:Ow enc size e w base v l) {p:Addr} (hp:wb v≠some p.block) (u:Value):Ow enc size e (w.setCell p u) base v l:=
 h.keep fun k hk=>Below.heap_setCell w p u k (fun e=>hp (by rw [hk,e]))
end
section
variable {α:Type} {enc:α→List Value} {size:Nat} {e:TypeId} {w w' w0:World} {base:Nat} {l m:List α} {v:Value} {P:Program}
theorem Y2H (t ty:TypeId) (i:TypeInfo) (z:Value) (bytes:Nat) (ht:P.underlying t=some (.slice e)) (hi:P.info? e=some i) (hz:i.zero=some z)
 (hsize:i.size=size) (hby:i.bytes=bytes) (hzs:z.cells.size=size) (hsz:0<size) (hs:∀ a,(enc a).length=size) (h1:∀ a,∀ u∈enc a,u.oneCell'=true)
 (hown:Ow enc size e w base v l) (B:Nat) (A:Option Addr) (c n:Nat) (hn:n=m.length) (hr:Rd enc size w B A m)
 (h63:l.length+m.length≤maxLen) (hbytes:(l.length+m.length)*bytes≤140737488355328) (hbase:base≤w.heap.size) :
 ∃ v' w',(Builtin.append_ #[t,t] ty #[v,.slice A n c]).run P w=.ok v' w'∧Ow enc size e w' base v' (l++m)∧w.grownBy w' (wb v) ∧
   (v'=v∧w'=w∨wb v'=wb v∨wb v'=some w.heap.size):=by
 subst hn
 have h63':=h63
 simp only [maxLen] at h63'
 have h1':∀ u∈m.flatMap enc,u.oneCell'=true:=by
  intro u hu
  obtain ⟨a,_,ha⟩:=List.mem_flatMap.1 hu
  exact h1 a u ha
 rcases Nat.eq_zero_or_pos m.length with h0|h0
 ·have hm:m=[]:=List.eq_nil_of_length_eq_zero h0
  subst hm
  obtain ⟨A',c',rfl,hle,_⟩:=hown.form
  refine ⟨_,w,?_,by simpa using hown,World.grownBy.refl w _,.inl ⟨rfl,rfl⟩⟩
  cases A<;>cases A'<;>simp [Builtin.append_,run_underlying ht,sizeOf,typeInfo,hi,Builtin.lenOf,Builtin.firstCells,loadCells,loadCellsFrom,storeCells,hle]
 ·obtain ⟨ad,rfl,_,_⟩:=hr h0
  have hflat:=hr.flat hs
  have hfl:=Z39 hs m
  have hcase:(∃ A',v=.slice A' 0 0∧l=[])∨(w.ownsRow base e size v l.length (l.flatMap enc)∧wb v=v.ownBlock):=by
   rcases hown with ⟨rfl,A',rfl⟩|ho
   ·exact .inl ⟨A',rfl,rfl⟩
   ·have ho':=ho
    obtain ⟨_,⟨rfl,hl0⟩ | ⟨g,cap,cur,rfl,_,_,hcl,_⟩⟩:=ho'
    ·exact .inl ⟨none,rfl,List.eq_nil_of_length_eq_zero hl0⟩
    ·cases cap with
     | zero=>exact .inl ⟨_,by rw [show l.length=0 by omega],List.eq_nil_of_length_eq_zero (by omega)⟩
     | succ c=>exact .inr ⟨ho,by simp [wb,Value.ownBlock]⟩
  rcases hcase with ⟨A',rfl,rfl⟩ | ⟨ho,hwb⟩
  ·have hwb0:wb (.slice A' 0 0)=none:=by cases A'<;>rfl
   rcases A' with _|b
   ·obtain ⟨v',w',hrun,h2,h3,_,h5⟩:=run_append_own_at (P:=P) w base t ty e i z size bytes ht hi hz hsize hby hzs hsz (.slice none 0 0) 0 [] (World.ownsRow_nil w base e size) ad m.length c (m.flatMap enc) hfl hflat h1' (by simpa using h63) (by simpa using hbytes) hbase
    refine ⟨v',w',hrun,.inr (by simpa using h2),by simpa [Value.ownBlock,hwb0] using h3,?_⟩
    have h2':v'=.slice none 0 0∨∃ g c',v'=.slice (some ⟨g,0,none⟩) m.length c'∧m.length≤c':=by
     obtain ⟨_,⟨hv,_⟩ | ⟨g,cap,cur,hv,_,_,hc,_⟩⟩:=h2
     ·exact .inl hv
     ·exact .inr ⟨g,cap,by simpa using hv,by simpa using hc⟩
    rcases h2' with rfl | ⟨g,c',rfl,hc'⟩
    ·exact .inr (.inl rfl)
    ·cases c' with
     | zero=>omega
     | succ c'=>
       rcases h5 with h5|h5
       ·simp [Value.ownBlock] at h5
       ·right;right
        simpa [wb,Value.ownBlock] using h5
   ·have hr:=run_append_grow (P:=P) w t ty e i z ht hi hz b 0 0 [] (by simp) (by simp) ad m.length c (m.flatMap enc) (by rw [hsize];exact hfl) hflat (by omega) (by simp only [List.length_nil] at h63';omega) (growslice_fits (by omega) (by rw [hby];simpa using hbytes))
    have hge:=grownCap_ge w (0+m.length) 0 e
    have hcm:grownCap w (0+m.length) 0 e≤maxLen:=grownCap_le_maxLen w (0+m.length) 0 e (by simpa using h63)
    simp only [Nat.zero_add,Array.empty_append] at hr hge hcm
    refine ⟨_,_,hr,.inr ⟨by simpa using hfl,.inr ⟨w.heap.size,_,_,rfl,hbase,heap_alloc_new w.drew _,hge,hcm,?_,?_⟩⟩,⟨rfl,rfl,rfl,by simp,fun k hk _=>Below.heap_alloc w.drew _ k hk⟩,?_⟩
    ·simp only [Array.size_append,List.size_toArray,size_zeroCells,hzs,hfl,←Nat.add_mul]
     congr 1
     omega
    ·simp [Array.toList_append,←hfl]
    ·right;right
     generalize grownCap w m.length 0 e=cc at *
     cases cc with
     | zero=>omega
     | succ cc=>simp [wb]
  ·obtain ⟨v',w',hrun,h2,h3,_,h5⟩:=run_append_own_at (P:=P) w base t ty e i z size bytes ht hi hz hsize hby hzs hsz v l.length (l.flatMap enc) ho ad m.length c (m.flatMap enc) hfl hflat h1' h63 hbytes hbase
   refine ⟨v',w',hrun,.inr (by simpa [List.flatMap_append] using h2),by rw [hwb];exact h3,?_⟩
   have:wb v'=v'.ownBlock:=by
    obtain ⟨_,⟨hv,hl0⟩ | ⟨g,cap,cur,hv,_,_,hc,_⟩⟩:=h2
    ·rw [hv];rfl
    ·rw [hv]
     cases cap with
     | zero=>omega
     | succ c=>simp [wb,Value.ownBlock]
   rw [this,hwb]
   exact .inr h5
theorem Z0C {B:Nat} {a w:World} (h:Below B a w) (n:Nat):Below B a (w.drewN n):=⟨h.os,h.tape,h.output,h.size,h.block⟩
theorem Z0p {w:World} {b:Nat} {o:Obj} (h:w.heap[b]? = some o):b<w.heap.size:=by
 rcases Nat.lt_or_ge b w.heap.size with hlt|hge
 ·exact hlt
 ·rw [Array.getElem?_eq_none hge] at h;cases h
theorem Z3i {B:Nat} (hb:Below B w0 w) (hB:B≤w.heap.size) (hown:Ow enc size e w base v l) (hbase:B≤base) (hg:w.grownBy w' (wb v)):Below B w0 w':=
 hb.grown hg hB fun k hk=>Nat.le_trans hbase (hown.wb_lt k hk).1
theorem Z5o {nq:Nat} {O:Obj} {v':Value} (hown:Ow enc size e w base v l) (hb:Below w0.heap.size w0 w) (hbase:w0.heap.size≤base) (hg:((w.drewN nq).alloc O).grownBy w' (wb v))
 (hv:v'=v∧w'=(w.drewN nq).alloc O∨wb v'=wb v∨wb v'=some ((w.drewN nq).alloc O).heap.size) :
 Below w0.heap.size w0 w'∧(∀ b ob,w.heap[b]? = some ob→wb v≠some b→w'.heap[b]? = some ob)∧(∀ b,b<w.heap.size→wb v≠some b→wb v'≠some b):=by
 refine ⟨Z3i ((Z0C hb nq).alloc hb.size O) (by have:=hb.size;simp;omega) ((hown.drewN nq).alloc O) hbase hg,fun b ob h hne=>?_,fun b h hne=>?_⟩
 ·have hlt:=Z0p h
  rw [hg.block b (by simp;omega) (fun e=>hne e.symm),Below.heap_alloc _ _ _ (by simpa using hlt)]
  exact h
 ·rcases hv with ⟨rfl,_⟩|h'|h'
  ·exact hne
  ·rw [h'];exact hne
  ·rw [h']
   intro e
   injection e with e
   simp at e
   omega
theorem Y0r {o:Oper} {a:Act} {K:Act→World→Prop} {Q:Exit→Act→World→Prop} (s x:Operand) (t:TypeId)
 (ho:o.op=.call { callee:=.builtin .append,args:=#[s,x],argTypes:=#[t,t] })
 (i:TypeInfo) (z:Value) (bytes:Nat) (ht:P.underlying t=some (.slice e)) (hi:P.info? e=some i) (hz:i.zero=some z)
 (hsize:i.size=size) (hby:i.bytes=bytes) (hzs:z.cells.size=size) (hsz:0<size) (hs:∀ a,(enc a).length=size) (h1:∀ a,∀ u∈enc a,u.oneCell'=true)
 (hsv:a.eval s=v) (hown:Ow enc size e w base v l) (B:Nat) (A:Option Addr) (c n:Nat) (hx:a.eval x=.slice A n c) (hn:n=m.length) (hr:Rd enc size w B A m)
 (h63:l.length+m.length≤maxLen) (hbytes:(l.length+m.length)*bytes≤140737488355328) (hbase:base≤w.heap.size)
 (h:∀ v' w',Ow enc size e w' base v' (l++m)→w.grownBy w' (wb v)→(v'=v∧w'=w∨wb v'=wb v∨wb v'=some w.heap.size)→K (a.put o.dst v') w'):o.wp P a w K Q:=by
 obtain ⟨v',w',hrun,h2,h3,h4⟩:=Y2H (P:=P) t o.type i z bytes ht hi hz hsize hby hzs hsz hs h1 hown B A c n hn hr h63 hbytes hbase
 unfold Oper.wp execOp
 simp only [ho,resolve,invoke,builtin,Sem.run_bind,Sem.run_pure,Result.andThen_ok,List.map_toArray,List.map_cons,List.map_nil,hsv,hx,hrun]
 exact h v' w' h2 h3 h4
theorem Z1K {ops:Array Oper} {rest:List Oper} {o:Oper} {a:Act} {Q:Exit→Act→World→Prop} (hgd:o.guard=none) (s x:Operand) (t:TypeId)
 (ho:o.op=.call { callee:=.builtin .append,args:=#[s,x],argTypes:=#[t,t] })
 (i:TypeInfo) (z:Value) (bytes:Nat) (ht:P.underlying t=some (.slice e)) (hi:P.info? e=some i) (hz:i.zero=some z)
 (hsize:i.size=size) (hby:i.bytes=bytes) (hzs:z.cells.size=size) (hsz:0<size) (hs:∀ a,(enc a).length=size) (h1:∀ a,∀ u∈enc a,u.oneCell'=true)
 (hsv:a.eval s=v) (hown:Ow enc size e w base v l) (B:Nat) (A:Option Addr) (c n:Nat) (hx:a.eval x=.slice A n c) (hn:n=m.length) (hr:Rd enc size w B A m)
 (h63:l.length+m.length≤maxLen) (hbytes:(l.length+m.length)*bytes≤140737488355328) (hbase:base≤w.heap.size)
 (h:∀ v' w',Ow enc size e w' base v' (l++m)→w.grownBy w' (wb v)→(v'=v∧w'=w∨wb v'=wb v∨wb v'=some w.heap.size)→wpList P ops Q rest (a.put o.dst v') w'):wpList P ops Q (o::rest) a w:=
 wpList_plain hgd fun _ hK=>Y0r s x t ho i z bytes ht hi hz hsize hby hzs hsz hs h1 hsv hown B A c n hx hn hr h63 hbytes hbase fun v' w' h2 h3 h4=>hK _ _ (h v' w' h2 h3 h4)
end
open Go.RowKit
set_option linter.unusedVariables false
def U8 (b:List Int):Prop := ∀ x∈b,0≤x∧x≤255
def uv (n:Nat):List Int:=if n<128 then [(n:Int)] else ((n % 128+128:Nat):Int)::uv (n / 128)
def rdU:Nat→List Int→Option (Nat×List Int)
 | _,[]=>none
 | i,x::t=>if i=9∧1<x∨0<i∧x=0 then none else if x<128 then some (x.toNat,t) else (rdU (i+1) t).map fun z=>(x.toNat-128+128*z.1,z.2)
theorem Z2p {n:Nat} (h:n<128):uv n=[(n:Int)]:=by rw [uv,if_pos h]
theorem Z2Z {n:Nat} (h:¬ n<128):uv n=((n % 128+128:Nat):Int)::uv (n / 128):=by rw [uv,if_neg h]
theorem uv_ne (n:Nat):uv n≠[]:=by
 by_cases h:n<128
 ·rw [Z2p h];simp
 ·rw [Z2Z h];simp
theorem Y2I:∀ (k n:Nat),n<128 ^ (k+1)→(uv n).length≤k+1
 | 0,n,h=>by rw [Z2p (by simpa using h)];simp
 | k+1,n,h=>by
   by_cases h1:n<128
   ·rw [Z2p h1];simp
   ·rw [Z2Z h1,List.length_cons]
    have:n / 128<128 ^ (k+1):=Nat.div_lt_of_lt_mul (by rw [Nat.pow_succ] at h;omega)
    have:=Y2I k (n / 128) this
    omega
theorem Z1g {n:Nat} (h:n<2 ^ 64):(uv n).length≤10:=Y2I 9 n (Nat.lt_of_lt_of_le h (by simp))
theorem Z5K (n:Nat):U8 (uv n):=by
 induction n using Nat.strongRecOn with
 | ind n ih=>
   by_cases h:n<128
   ·rw [Z2p h];intro x hx;simp at hx;omega
   ·rw [Z2Z h]
    intro x hx
    rcases List.mem_cons.1 hx with rfl|hx
    ·omega
    ·exact ih (n / 128) (by omega) x hx
theorem uv_rd (rest:List Int):∀ (n i:Nat),(0<i→0<n)→n*128 ^ i<2 ^ 64→rdU i (uv n++rest)=some (n,rest):=by
 intro n
 induction n using Nat.strongRecOn with
 | ind n ih=>
   intro i hi hn
   have h9:i≤9∨n=0:=by
    rcases Nat.lt_or_ge 9 i with h|h
    ·right
     have:128 ^ 10≤128 ^ i:=Nat.pow_le_pow_right (by omega) h
     rcases Nat.eq_zero_or_pos n with h0|h0
     ·exact h0
     ·have:=Nat.le_trans this (Nat.le_mul_of_pos_left _ h0)
      omega
    ·exact .inl h
   by_cases h:n<128
   ·rw [Z2p h,List.singleton_append,rdU]
    rw [if_neg,if_pos (by omega),Int.toNat_natCast]
    rintro (⟨rfl,h2⟩ | ⟨h1,h2⟩)
    ·omega
    ·have:=hi h1;omega
   ·rw [Z2Z h,List.cons_append,rdU]
    rw [if_neg,if_neg (by omega),ih (n / 128) (by omega) (i+1) (fun _=>by omega) (by
     have h1:n / 128*128≤n:=Nat.div_mul_le_self n 128
     calc n / 128*128 ^ (i+1)=n / 128*128*128 ^ i:=by rw [Nat.pow_succ,Nat.mul_assoc,Nat.mul_comm (128 ^ i)]
      _≤n*128 ^ i:=Nat.mul_le_mul_right _ h1
      _<2 ^ 64:=hn)]
    ·simp only [Option.map_some,Int.toNat_natCast]
     congr 2
     omega
    rintro (⟨rfl,h2⟩ | ⟨h1,h2⟩)
    ·omega
    ·omega
theorem rd_uv {b rest:List Int} {n:Nat}:∀ {i:Nat},U8 b→i≤9→rdU i b=some (n,rest)→b=uv n++rest∧(0<i→0<n)∧n*128 ^ i<2 ^ 64:=by
 induction b generalizing n with
 | nil=>intro i _ _ h;simp [rdU] at h
 | cons x t ih=>
   intro i hu hi h
   have hx:=hu x (by simp)
   rw [rdU] at h
   split at h
   ·cases h
   ·rename_i hc
    split at h
    ·rename_i hlt
     injection h with h
     injection h with h1 h2
     subst h2
     subst h1
     refine ⟨?_,?_,?_⟩
     ·rw [Z2p (by omega),List.singleton_append,Int.toNat_of_nonneg hx.1]
     ·intro h0
      have:¬ x=0:=fun e=>hc (.inr ⟨h0,e⟩)
      omega
     ·have:i=9→x≤1:=fun e=>by
       have:=fun h2=>hc (.inl ⟨e,h2⟩)
       omega
      rcases Nat.lt_or_ge i 9 with h9|h9
      ·have h2:128 ^ i≤128 ^ 8:=Nat.pow_le_pow_right (by omega) (by omega)
       calc x.toNat*128 ^ i≤x.toNat*128 ^ 8:=Nat.mul_le_mul_left _ h2
        _<2 ^ 64:=by omega
      ·have:i=9:=by omega
       subst this
       have:x≤1:=by omega
       have h2:x.toNat≤1:=by omega
       calc x.toNat*128 ^ 9≤1*128 ^ 9:=Nat.mul_le_mul_right _ h2
        _<2 ^ 64:=by omega
    ·rename_i hge
     cases hr:rdU (i+1) t with
     | none=>rw [hr] at h;cases h
     | some z=>
       obtain ⟨m,r⟩:=z
       rw [hr] at h
       injection h with h
       injection h with h1 h2
       simp only at h1 h2
       subst h2
       subst h1
       have hi9:i≠9:=by
        rintro rfl
        have:=fun h2=>hc (.inl ⟨rfl,h2⟩)
        omega
       obtain ⟨e1,e2,e3⟩:=ih (fun y hy=>hu y (by simp [hy])) (by omega:i+1≤9) hr
       have hm:0<m:=e2 (by omega)
       refine ⟨?_,fun _=>by omega,?_⟩
       ·rw [Z2Z (by omega),List.cons_append,show (x.toNat-128+128*m) / 128=m by omega,←e1]
        congr 1
        omega
       ·have h2:x.toNat-128+128*m≤127+128*m:=by omega
        have h3:(x.toNat-128+128*m)*128 ^ i≤127*128 ^ i+m*128 ^ (i+1):=by
         calc (x.toNat-128+128*m)*128 ^ i≤(127+128*m)*128 ^ i:=Nat.mul_le_mul_right _ h2
          _=127*128 ^ i+m*128 ^ (i+1):=by rw [Nat.add_mul,Nat.pow_succ,Nat.mul_comm (128 ^ i) 128,←Nat.mul_assoc,Nat.mul_comm 128 m]
        rcases Nat.lt_or_ge i 8 with h8|h8
        · -- m * 128^(i+1) < 2^64 is a multiple of 128^(i+1)
         have hd:2 ^ 64=2 ^ (64-7*(i+1))*128 ^ (i+1):=by
          rw [show (128:Nat)=2 ^ 7 by rfl,←Nat.pow_mul,←Nat.pow_add]
          congr 1
          omega
         have hp:0<128 ^ (i+1):=Nat.pow_pos (by omega)
         have hm2:m<2 ^ (64-7*(i+1)):=Nat.lt_of_mul_lt_mul_right (a:=128 ^ (i+1)) (by rw [←hd];exact e3)
         have h5:(m+1)*128 ^ (i+1)≤2 ^ 64:=by rw [hd];exact Nat.mul_le_mul_right _ hm2
         have h6:127*128 ^ i<128 ^ (i+1):=by
          rw [Nat.pow_succ,Nat.mul_comm]
          exact Nat.mul_lt_mul_of_pos_left (by omega) (Nat.pow_pos (by omega))
         rw [Nat.add_mul] at h5
         omega
        ·have:i=8:=by omega
         subst this
         have hm2:m*128 ^ 9<2*128 ^ 9:=by
          calc m*128 ^ 9<2 ^ 64:=e3
           _=2*128 ^ 9:=by simp
         have hm3:m<2:=Nat.lt_of_mul_lt_mul_right hm2
         calc (x.toNat-128+128*m)*128 ^ 8≤(127+128*1)*128 ^ 8:=Nat.mul_le_mul_right _ (by omega)
          _<2 ^ 64:=by simp
theorem Y2J {n:Nat} (h:n<2 ^ 64) (rest:List Int):rdU 0 (uv n++rest)=some (n,rest):=uv_rd rest n 0 (by simp) (by simpa using h)
theorem Z20 {b rest:List Int} {n:Nat} (hu:U8 b) (h:rdU 0 b=some (n,rest)):b=uv n++rest∧n<2 ^ 64:=by
 obtain ⟨h1,_,h2⟩:=rd_uv hu (by omega) h
 exact ⟨h1,by simpa using h2⟩
def zigP (n:Int):Nat:=if 0≤n then (2*n).toNat else (-2*n-1).toNat
def zagP (m:Nat):Int:=if m % 2=0 then (m / 2:Nat) else -(m / 2:Nat)-1
theorem Y6P (n:Int):zagP (zigP n)=n:=by
 unfold zagP zigP
 split<;>split<;>omega
theorem Y6Q (m:Nat):zigP (zagP m)=m:=by
 unfold zagP zigP
 split<;>split<;>omega
theorem Z8c {n:Int} (h0 : -9223372036854775808≤n) (h1:n≤9223372036854775807):zigP n<2 ^ 64:=by
 unfold zigP
 split<;>omega
theorem Y2K {m:Nat} (h:m<2 ^ 64) : -9223372036854775808≤zagP m∧zagP m≤9223372036854775807:=by
 unfold zagP
 split<;>omega
structure V where
 k:Int
 n:Int
 f:Int
 s:ByteArray
deriving DecidableEq
structure At where
 key:Int
 v:V
deriving DecidableEq
structure Ch where
 key:Int
 gone:Bool
 v:V
deriving DecidableEq
def V.zero:V:=⟨0,0,0,⟨#[]⟩⟩
def At.enc (a:At):List Value:=[.int .i64 a.key,.int .u8 a.v.k,.int .i64 a.v.n,.int .u64 a.v.f,.string a.v.s]
def Ch.enc (a:Ch):List Value:=[.int .i64 a.key,.bool a.gone,.int .u8 a.v.k,.int .i64 a.v.n,.int .u64 a.v.f,.string a.v.s]
def V.val (v:V):Value:=.agg #[.int .u8 v.k,.int .i64 v.n,.int .u64 v.f,.string v.s]
def At.val (a:At):Value:=.agg #[.int .i64 a.key,.int .u8 a.v.k,.int .i64 a.v.n,.int .u64 a.v.f,.string a.v.s]
def Ch.val (a:Ch):Value:=.agg #[.int .i64 a.key,.bool a.gone,.int .u8 a.v.k,.int .i64 a.v.n,.int .u64 a.v.f,.string a.v.s]
theorem At.enc_len (a:At):a.enc.length=5:=rfl
theorem Ch.enc_len (a:Ch):a.enc.length=6:=rfl
theorem At.enc_one (a:At):∀ u∈a.enc,u.oneCell'=true:=by intro u hu;simp [At.enc] at hu;rcases hu with rfl|rfl|rfl|rfl|rfl<;>rfl
theorem Ch.enc_one (a:Ch):∀ u∈a.enc,u.oneCell'=true:=by intro u hu;simp [Ch.enc] at hu;rcases hu with rfl|rfl|rfl|rfl|rfl|rfl<;>rfl
section
variable {w:World} {p:Addr}
theorem Z0s {cs:List Value} (h:CellsAt w p cs) (j:Nat) {u:Value} (hj:cs[j+1]? = some u):w.cell? { block:=p.block,off:=p.off+(j+1) }=some u:=by
 have:=h (j+1) u hj
 simpa [Addr.add] using this
theorem Z0P {k a n f:Int} {s:ByteArray} (h:CellsAt w p (At.enc ⟨k,⟨a,n,f,s⟩⟩)) :
 w.cell? p=some (.int .i64 k)∧w.cell? { block:=p.block,off:=p.off+1 }=some (.int .u8 a)∧w.cell? { block:=p.block,off:=p.off+2 }=some (.int .i64 n)∧w.cell? { block:=p.block,off:=p.off+3 }=some (.int .u64 f)∧w.cell? { block:=p.block,off:=p.off+4 }=some (.string s):=by
 have h0:=h 0 _ rfl
 rw [Z0n] at h0
 exact ⟨h0,Z0s h 0 rfl,Z0s h 1 rfl,Z0s h 2 rfl,Z0s h 3 rfl⟩
theorem Z0I {k a n f:Int} {g:Bool} {s:ByteArray} (h:CellsAt w p (Ch.enc ⟨k,g,⟨a,n,f,s⟩⟩)) :
 w.cell? p=some (.int .i64 k)∧w.cell? { block:=p.block,off:=p.off+1 }=some (.bool g)∧w.cell? { block:=p.block,off:=p.off+2 }=some (.int .u8 a)∧w.cell? { block:=p.block,off:=p.off+3 }=some (.int .i64 n)∧w.cell? { block:=p.block,off:=p.off+4 }=some (.int .u64 f)∧w.cell? { block:=p.block,off:=p.off+5 }=some (.string s):=by
 have h0:=h 0 _ rfl
 rw [Z0n] at h0
 exact ⟨h0,Z0s h 0 rfl,Z0s h 1 rfl,Z0s h 2 rfl,Z0s h 3 rfl,Z0s h 4 rfl⟩
theorem Z4a {b:Nat} {t:TypeId} {c0 c1 c2 c3 c4 c5:Value} (h:w.heap[b]? = some (.cells #[c0,c1,c2,c3,c4,c5] t (0,0))) :
 w.cell? ⟨b,0,none⟩=some c0∧w.cell? ⟨b,1,none⟩=some c1∧w.cell? ⟨b,2,none⟩=some c2∧w.cell? ⟨b,3,none⟩=some c3∧w.cell? ⟨b,4,none⟩=some c4∧w.cell? ⟨b,5,none⟩=some c5:=by
 simp [World.cell?,h]
theorem Z0x {b:Nat} {t:TypeId} {c0 c1 c2 c3 c4:Value} (h:w.heap[b]? = some (.cells #[c0,c1,c2,c3,c4] t (0,0))) :
 w.cell? ⟨b,0,none⟩=some c0∧w.cell? ⟨b,1,none⟩=some c1∧w.cell? ⟨b,2,none⟩=some c2∧w.cell? ⟨b,3,none⟩=some c3∧w.cell? ⟨b,4,none⟩=some c4:=by
 simp [World.cell?,h]
theorem Z1Y {b:Nat} {t:TypeId} {c0 c1 c2 c3:Value} (h:w.heap[b]? = some (.cells #[c0,c1,c2,c3] t (0,0))) :
 w.cell? ⟨b,0,none⟩=some c0∧w.cell? ⟨b,1,none⟩=some c1∧w.cell? ⟨b,2,none⟩=some c2∧w.cell? ⟨b,3,none⟩=some c3:=by
 simp [World.cell?,h]
theorem Z0y {b:Nat} {t:TypeId} {cs:Array Value} (h:w.heap[b]? = some (.cells cs t (0,0))):∀ j,w.frozen? ⟨b,j,none⟩=false:=by
 intro j;simp [World.frozen?,h]
theorem Z3j {α:Type} {enc:α→List Value} {size:Nat} (w:World) (e:TypeId) (a:α) {cs:Array Value} (hc:cs.toList=enc a) :
 Rd enc size (w.alloc (.cells cs e)) (w.heap.size+1) (some ⟨w.heap.size,0,none⟩) [a]:=by
 intro _
 refine ⟨_,rfl,by simp,fun i hi j u hu=>?_⟩
 have hi0:i=0:=by simpa using hi
 subst hi0
 simp only [List.getElem_cons_zero] at hu
 rw [←hc] at hu
 have hh:=heap_alloc_new w (.cells cs e)
 simp only [Nat.zero_mul,Z0n]
 unfold Addr.add
 split
 ·rename_i h0;subst h0
  simp only [World.cell?,hh];simpa using hu
 ·simp only [World.cell?,hh];simpa using hu
end
theorem Y0s (w:World) (o:Obj):w.heap.size≤(w.alloc o).heap.size:=by simp
theorem Z5L (w:World) (o:Obj):w.heap.size+1=(w.alloc o).heap.size:=by simp
theorem Z8d {α:Type} {enc:α→List Value} {size:Nat} (w:World) (e:TypeId) (a:α) {cs:Array Value} (hc:cs.toList=enc a) {b:Nat} (hb:b=w.heap.size) :
 Rd enc size (w.alloc (.cells cs e)) (w.heap.size+1) (some ⟨b,0,none⟩) [a]:=by
 subst hb
 exact Z3j w e a hc
theorem Tryz.infoAt:(Tryz.prog.info? 108).map (fun i=>(i.zero,i.size,i.bytes))=some (some (At.val ⟨0,V.zero⟩),5,48):=by kernel_rfl
theorem Tryz.infoCh:(Tryz.prog.info? 75).map (fun i=>(i.zero,i.size,i.bytes))=some (some (Ch.val ⟨0,false,V.zero⟩),6,56):=by kernel_rfl
theorem Tryz.slAt:Tryz.prog.underlying 34=some (.slice 108):=by kernel_rfl
theorem Tryz.slCh:Tryz.prog.underlying 24=some (.slice 75):=by kernel_rfl
abbrev OwAt:=@Ow At At.enc 5 108
abbrev OwCh:=@Ow Ch Ch.enc 6 75
abbrev RdAt:=@Rd At At.enc 5
abbrev RdCh:=@Rd Ch Ch.enc 6
section
variable {ops:Array Oper} {rest:List Oper} {o:Oper} {a:Act} {Q:Exit→Act→World→Prop} {w:World} {base:Nat} {v:Value}
theorem Z5M {l m:List At} (hgd:o.guard=none) (s x:Operand)
 (ho:o.op=.call { callee:=.builtin .append,args:=#[s,x],argTypes:=#[34,34] })
 (hsv:a.eval s=v) (hown:OwAt w base v l) (B:Nat) (A:Option Addr) (c n:Nat) (hx:a.eval x=.slice A n c) (hn:n=m.length) (hr:RdAt w B A m)
 (hb:l.length+m.length≤2000000000000) (hbase:base≤w.heap.size)
 (h:∀ v' w',OwAt w' base v' (l++m)→w.grownBy w' (wb v)→(v'=v∧w'=w∨wb v'=wb v∨wb v'=some w.heap.size)→wpList Tryz.prog ops Q rest (a.put o.dst v') w'):wpList Tryz.prog ops Q (o::rest) a w:=by
 obtain ⟨i0,hi0,hz0,hz1,hz2⟩:=info_parts Tryz.infoAt
 exact Z1K hgd s x _ ho i0 _ 48 Tryz.slAt hi0 hz0 hz1 hz2 rfl (by omega) At.enc_len At.enc_one hsv hown B A c n hx hn hr (by simp only [maxLen];omega) (by omega) hbase h
theorem Y6v {l m:List Ch} (hgd:o.guard=none) (s x:Operand)
 (ho:o.op=.call { callee:=.builtin .append,args:=#[s,x],argTypes:=#[24,24] })
 (hsv:a.eval s=v) (hown:OwCh w base v l) (B:Nat) (A:Option Addr) (c n:Nat) (hx:a.eval x=.slice A n c) (hn:n=m.length) (hr:RdCh w B A m)
 (hb:l.length+m.length≤2000000000000) (hbase:base≤w.heap.size)
 (h:∀ v' w',OwCh w' base v' (l++m)→w.grownBy w' (wb v)→(v'=v∧w'=w∨wb v'=wb v∨wb v'=some w.heap.size)→wpList Tryz.prog ops Q rest (a.put o.dst v') w'):wpList Tryz.prog ops Q (o::rest) a w:=by
 obtain ⟨i0,hi0,hz0,hz1,hz2⟩:=info_parts Tryz.infoCh
 exact Z1K hgd s x _ ho i0 _ 56 Tryz.slCh hi0 hz0 hz1 hz2 rfl (by omega) Ch.enc_len Ch.enc_one hsv hown B A c n hx hn hr (by simp only [maxLen];omega) (by omega) hbase h
end
open Go.RowKit
set_option linter.unusedVariables false
set_option linter.unusedSimpArgs false
def mayR (r:Int):Bool:=decide (0≤r∧r<55296∨57344≤r∧r≤1114111)
theorem Y2L (r:Int) (w:World):Calls Tryz.prog 121 #[.int .i32 r] w fun e w'=>e=.returned (.bool (mayR r))∧w=w':=by
 by_cases h1:0≤r
 ·by_cases h2:r<55296
  ·have h3:mayR r=true:=decide_eq_true (.inl ⟨h1,h2⟩)
   rw [h3]
   go_enter Tryz.func121,Tryz.ntmps121
   go_wp2_with (fail)
   go_ret
   exact ⟨rfl,rfl⟩
  ·by_cases h4:57343<r
   ·by_cases h5:r≤1114111
    ·have h3:mayR r=true:=decide_eq_true (.inr ⟨by omega,h5⟩)
     rw [h3]
     go_enter Tryz.func121,Tryz.ntmps121
     go_wp2_with (fail)
     go_ret
     exact ⟨rfl,rfl⟩
    ·have h3:mayR r=false:=decide_eq_false (by omega)
     rw [h3]
     go_enter Tryz.func121,Tryz.ntmps121
     go_wp2_with (fail)
     go_ret
     exact ⟨rfl,rfl⟩
   ·have h3:mayR r=false:=decide_eq_false (by omega)
    rw [h3]
    go_enter Tryz.func121,Tryz.ntmps121
    go_wp2_with (fail)
    go_ret
    exact ⟨rfl,rfl⟩
 ·have h3:mayR r=false:=decide_eq_false (by omega)
  rw [h3]
  have h4:¬ 57343<r:=by omega
  go_enter Tryz.func121,Tryz.ntmps121
  go_wp2_with (fail)
  go_ret
  exact ⟨rfl,rfl⟩
theorem Z5N (r:Int) (w:World):Calls Tryz.prog 51 #[.int .i32 r] w fun e w'=>e=.returned (.bool (mayR r))∧w=w':=by
 generalize hR:mayR r=R
 have HR:=Lib.hid hR
 clear hR
 go_enter Tryz.func51,Tryz.ntmps51
 go_wp2_with (go_at_call 121;refine Hid.out ?_)
 refine Lib.hid ?_
 refine (Y2L r w).mono ?_
 rintro e w1 ⟨rfl,rfl⟩
 rw [HR.out]
 go_wp2_with (fail)
 go_ret
 exact ⟨rfl,rfl⟩
theorem Z1c (r:Int) (w:World):Calls Tryz.prog 177 #[.int .i32 r] w fun e w'=>e=.returned (.bool (mayR r))∧w=w':=by
 by_cases h1:0≤r
 ·by_cases h2:r<55296
  ·have h3:mayR r=true:=decide_eq_true (.inl ⟨h1,h2⟩)
   rw [h3]
   go_enter Tryz.func177,Tryz.ntmps177
   go_wp2_with (fail)
   go_ret
   exact ⟨rfl,rfl⟩
  ·by_cases h4:57344≤r
   ·by_cases h5:r≤1114111
    ·have h3:mayR r=true:=decide_eq_true (.inr ⟨h4,h5⟩)
     rw [h3]
     go_enter Tryz.func177,Tryz.ntmps177
     go_wp2_with (fail)
     go_ret
     exact ⟨rfl,rfl⟩
    ·have h3:mayR r=false:=decide_eq_false (by omega)
     rw [h3]
     go_enter Tryz.func177,Tryz.ntmps177
     go_wp2_with (fail)
     go_ret
     exact ⟨rfl,rfl⟩
   ·have h3:mayR r=false:=decide_eq_false (by omega)
    rw [h3]
    go_enter Tryz.func177,Tryz.ntmps177
    go_wp2_with (fail)
    go_ret
    exact ⟨rfl,rfl⟩
 ·have h3:mayR r=false:=decide_eq_false (by omega)
  rw [h3]
  have h4:¬ 57344≤r:=by omega
  go_enter Tryz.func177,Tryz.ntmps177
  go_wp2_with (fail)
  go_ret
  exact ⟨rfl,rfl⟩
theorem Z9v (r:Int) (w:World) (h0:0≤r) (h1:r≤2147483647):Calls Tryz.prog 326 #[.int .i32 r] w fun e w'=>e=.returned (.int .u8 (128+r % 64))∧w=w':=by
 go_enter Tryz.func326,Tryz.ntmps326
 go_wp2_with (fail)
 go_ret
 exact ⟨rfl,rfl⟩
def Z2B (x:Int):List Value:=[.int .u8 x]
def Z46 (x:Int):List Value:=[.int .i32 x]
def encR (r:Int):List Int:=
 if r<128 then [r] else if r<2048 then [192+r / 64,128+r % 64] else if r<65536 then [224+r / 4096,128+r / 64 % 64,128+r % 64]
 else [240+r / 262144,128+r / 4096 % 64,128+r / 64 % 64,128+r % 64]
theorem Z7s (r:Int) (w:World) (h0:0≤r) (h1:r≤1114111):Calls Tryz.prog 261 #[.int .i32 r] w fun e w'=>
 ∃ A c,e=.returned (.slice A (encR r).length c)∧Rd Z2B 1 w' w'.heap.size A (encR r)∧Below w.heap.size w w':=by
 by_cases h2:r<128
 ·have e:encR r=[r]:=by simp [encR,h2]
  rw [e]
  go_enter Tryz.func261,Tryz.ntmps261
  go_wp2_with (fail)
  go_ret
  exact ⟨_,_,rfl,Rd.new (enc:=Z2B) (size:=1) (fun _=>rfl) w 5 _ (cs:=#[.int .u8 (r)]) rfl rfl,Z0b w _⟩
 ·by_cases h3:r<2048
  ·have e:encR r=[192+r / 64,128+r % 64]:=by simp [encR,h2,h3]
   rw [e]
   go_enter Tryz.func261,Tryz.ntmps261
   go_wp2_with (go_at_call 326;refine (Z9v _ w (by omega) (by omega)).mono ?_;rintro e w' ⟨rfl,rfl⟩)
   go_ret
   exact ⟨_,_,rfl,Rd.new (enc:=Z2B) (size:=1) (fun _=>rfl) w 5 _ (cs:=#[.int .u8 (192+r / 64),.int .u8 (128+r % 64)]) rfl rfl,Z0b w _⟩
  ·by_cases h4:r<65536
   ·have e:encR r=[224+r / 4096,128+r / 64 % 64,128+r % 64]:=by simp [encR,h2,h3,h4]
    rw [e]
    go_enter Tryz.func261,Tryz.ntmps261
    go_wp2_with (go_at_call 326;refine (Z9v _ w (by omega) (by omega)).mono ?_;rintro e w' ⟨rfl,rfl⟩)
    go_ret
    exact ⟨_,_,rfl,Rd.new (enc:=Z2B) (size:=1) (fun _=>rfl) w 5 _ (cs:=#[.int .u8 (224+r / 4096),.int .u8 (128+r / 64 % 64),.int .u8 (128+r % 64)]) rfl rfl,Z0b w _⟩
   ·have e:encR r=[240+r / 262144,128+r / 4096 % 64,128+r / 64 % 64,128+r % 64]:=by simp [encR,h2,h3,h4]
    rw [e]
    go_enter Tryz.func261,Tryz.ntmps261
    go_wp2_with (go_at_call 326;refine (Z9v _ w (by omega) (by omega)).mono ?_;rintro e w' ⟨rfl,rfl⟩)
    go_ret
    exact ⟨_,_,rfl,Rd.new (enc:=Z2B) (size:=1) (fun _=>rfl) w 5 _ (cs:=#[.int .u8 (240+r / 262144),.int .u8 (128+r / 4096 % 64),.int .u8 (128+r / 64 % 64),.int .u8 (128+r % 64)]) rfl rfl,Z0b w _⟩
theorem Tryz.infoU8:(Tryz.prog.info? 5).map (fun i=>(i.zero,i.size,i.bytes))=some (some (.int .u8 0),1,1):=by kernel_rfl
theorem Tryz.infoI32:(Tryz.prog.info? 21).map (fun i=>(i.zero,i.size,i.bytes))=some (some (.int .i32 0),1,4):=by kernel_rfl
theorem Tryz.slU8:Tryz.prog.underlying 55=some (.slice 5):=by kernel_rfl
theorem Tryz.slI32:Tryz.prog.underlying 33=some (.slice 21):=by kernel_rfl
theorem Z1Q (a:Int):(Z2B a).length=1:=rfl
theorem Z1d (a:Int):(Z46 a).length=1:=rfl
theorem Z8e (a:Int):∀ u∈Z2B a,u.oneCell'=true:=by intro u hu;simp [Z2B] at hu;rw [hu];rfl
theorem Z6Q (a:Int):∀ u∈Z46 a,u.oneCell'=true:=by intro u hu;simp [Z46] at hu;rw [hu];rfl
theorem Z5O {P:Program} {t:TypeId} {z:Option Value} {s b:Nat} (h:(P.info? t).map (fun i=>(i.zero,i.size,i.bytes))=some (z,s,b)):∃ i,P.info? t=some i∧i.zero=z∧i.size=s∧i.bytes=b:=by
 cases hi:P.info? t with
 | none=>rw [hi] at h;simp at h
 | some i=>rw [hi] at h;simp at h;exact ⟨i,rfl,h.1,h.2.1,h.2.2⟩
abbrev OwU8:=@Ow Int Z2B 1 5
abbrev Z3k:=@Ow Int Z46 1 21
abbrev RdU8:=@Rd Int Z2B 1
abbrev Z11:=@Rd Int Z46 1
section
variable {ops:Array Oper} {rest:List Oper} {o:Oper} {a:Act} {Q:Exit→Act→World→Prop} {w:World} {base:Nat} {v:Value}
theorem Z3l {l m:List Int} (hgd:o.guard=none) (s x:Operand)
 (ho:o.op=.call { callee:=.builtin .append,args:=#[s,x],argTypes:=#[55,55] })
 (hsv:a.eval s=v) (hown:OwU8 w base v l) (B:Nat) (A:Option Addr) (c n:Nat) (hx:a.eval x=.slice A n c) (hn:n=m.length) (hr:RdU8 w B A m)
 (hb:l.length+m.length≤2000000000000) (hbase:base≤w.heap.size)
 (h:∀ v' w',OwU8 w' base v' (l++m)→w.grownBy w' (wb v)→(v'=v∧w'=w∨wb v'=wb v∨wb v'=some w.heap.size)→wpList Tryz.prog ops Q rest (a.put o.dst v') w'):wpList Tryz.prog ops Q (o::rest) a w:=by
 obtain ⟨i0,hi0,hz0,hz1,hz2⟩:=Z5O Tryz.infoU8
 exact Z1K hgd s x _ ho i0 _ 1 Tryz.slU8 hi0 hz0 hz1 hz2 rfl (by omega) Z1Q Z8e hsv hown B A c n hx hn hr (by simp only [maxLen];omega) (by omega) hbase h
theorem Z9w {l m:List Int} (hgd:o.guard=none) (s x:Operand)
 (ho:o.op=.call { callee:=.builtin .append,args:=#[s,x],argTypes:=#[33,33] })
 (hsv:a.eval s=v) (hown:Z3k w base v l) (B:Nat) (A:Option Addr) (c n:Nat) (hx:a.eval x=.slice A n c) (hn:n=m.length) (hr:Z11 w B A m)
 (hb:l.length+m.length≤2000000000000) (hbase:base≤w.heap.size)
 (h:∀ v' w',Z3k w' base v' (l++m)→w.grownBy w' (wb v)→(v'=v∧w'=w∨wb v'=wb v∨wb v'=some w.heap.size)→wpList Tryz.prog ops Q rest (a.put o.dst v') w'):wpList Tryz.prog ops Q (o::rest) a w:=by
 obtain ⟨i0,hi0,hz0,hz1,hz2⟩:=Z5O Tryz.infoI32
 exact Z1K hgd s x _ ho i0 _ 4 Tryz.slI32 hi0 hz0 hz1 hz2 rfl (by omega) Z1d Z6Q hsv hown B A c n hx hn hr (by simp only [maxLen];omega) (by omega) hbase h
end
end Go.Proofs.YtnmedachaeanbaaGreatDoor
