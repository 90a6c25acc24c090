/- Merged texts. -/
import Derived.Test.YtnmedachaeanbaaGreatDoorB53
namespace Go.Proofs.YtnmedachaeanbaaGreatDoor
set_option maxHeartbeats 800000
open Go.ChangeShapes Go.WideShapes Go.ChangeAt Go.RowKit Go.Deep
set_option linter.unusedVariables false
set_option linter.constructorNameAsVariable false
set_option maxRecDepth 20000
theorem Tryz.qV:Tryz.prog.underlying 73=some (.struct (Tryz.prog.fieldsOf 73)):=by kernel_rfl
theorem Tryz.qFd:(Tryz.prog.fieldsOf 73).toList.map (fun f=>(f.type,f.offset))=[(5,0),(2,1),(71,2),(9,3)]:=by kernel_rfl
theorem Tryz.qI64:Tryz.prog.underlying 2=some (.int .i64):=by kernel_rfl
theorem Tryz.qU8:Tryz.prog.underlying 5=some (.int .u8):=by kernel_rfl
theorem Tryz.qU64:Tryz.prog.underlying 71=some (.int .u64):=by kernel_rfl
theorem Tryz.qBool:Tryz.prog.underlying 4=some .bool:=by kernel_rfl
theorem Tryz.qStr:Tryz.prog.underlying 9=some .string:=by kernel_rfl
theorem Tryz.qcV:Tryz.prog.cellsOf 73=4:=by kernel_rfl
theorem Tryz.qcI64:Tryz.prog.cellsOf 2=1:=by kernel_rfl
theorem Tryz.qcU8:Tryz.prog.cellsOf 5=1:=by kernel_rfl
theorem Tryz.qcU64:Tryz.prog.cellsOf 71=1:=by kernel_rfl
theorem Tryz.qcStr:Tryz.prog.cellsOf 9=1:=by kernel_rfl
theorem wf_u8 {n:Int} (h:(Lit.int .u8 n).wf=true):0≤n∧n≤255:=by
 simp [Lit.wf] at h
 have h1:IntKind.u8.min=0:=by decide
 have h2:IntKind.u8.max=255:=by decide
 rw [h1,h2] at h
 exact h
theorem Y81 {n:Int} (h:(Lit.int .u64 n).wf=true):0≤n∧n≤18446744073709551615:=by
 simp [Lit.wf] at h
 have h1:IntKind.u64.min=0:=by decide
 have h2:IntKind.u64.max=18446744073709551615:=by decide
 rw [h1,h2] at h
 exact h
theorem Y82 {n:Int} (h:(Lit.int .i64 n).wf=true) : -9223372036854775808≤n∧n≤9223372036854775807:=by
 simp [Lit.wf] at h
 have h1:IntKind.i64.min = -9223372036854775808:=by decide
 rw [h1] at h
 exact h
theorem Z0G {fs:Array Field} {l:List (TypeId×Nat)} (h:fs.toList.map (fun f=>(f.type,f.offset))=l) {i:Nat} {t o:Nat} (hi:l[i]? = some (t,o)):∃ f,fs[i]? = some f∧f.type=t∧f.offset=o:=by
 rw [←h,List.getElem?_map] at hi
 rw [Array.getElem?_toList] at hi
 cases hf:fs[i]? with
 | none=>rw [hf] at hi;simp at hi
 | some f=>rw [hf] at hi;simp at hi;exact ⟨f,rfl,hi.1,hi.2⟩
section
variable {H:Type} {enc:TypeId×Value→H} {w:World} {base:Nat} {spare:Nat→Bool} {held:Bool} {fuel:Nat} {cs:List Value} {x:DataW H×List MemPlace}
end
open Go.ChangeShapes Go.WideShapes Go.ChangeAt Go.RowKit Go.Deep
set_option linter.unusedVariables false
set_option linter.constructorNameAsVariable false
set_option maxRecDepth 20000
theorem Z8b {H:Type} (d:DataW H):1≤Rows.uptoBulk d:=by
 cases d with
 | lit l=>cases l<;>simp [Rows.uptoBulk]
 | _=>simp [Rows.uptoBulk]
theorem Z1p {H:Type} {d:DataW H} {l:List (DataW H)} (h:d∈l):Rows.uptoBulk d≤Rows.uptoBulkAll l:=by
 induction l with
 | nil=>cases h
 | cons x r ih=>
   simp only [Rows.uptoBulkAll]
   rcases List.mem_cons.1 h with rfl|e
   ·omega
   ·have:=ih e;omega
theorem Y1A {H:Type} (l:List (DataW H)):l.length≤Rows.uptoBulkAll l:=by
 induction l with
 | nil=>simp [Rows.uptoBulkAll]
 | cons x r ih=>have:=Z8b x;simp only [Rows.uptoBulkAll,List.length_cons];omega
theorem Z3T {α:Type} {enc':α→List Value} {size:Nat} {H:Type} {enc:TypeId×Value→H} {W:World} {base:Nat} {spare:Nat→Bool} {held:Bool} {t e:TypeId} {v:Value} {d:DataW H} {ps:List MemPlace} {r:Reach} {b0:Nat} (Pr:α→DataW H→Prop)
 (ht:Tryz.prog.underlying t=some (.slice e)) (hC:Tryz.prog.cellsOf e=size) (hz:∀ a,(enc' a).length=size) (hpos:0<size)
 (hread:∀ {fuel:Nat} {cs:List Value} {x:DataW H×List MemPlace},DataW.trod enc Tryz.prog W base spare held fuel e cs=some x→∃ a:α,cs=enc' a∧Pr a x.1)
 (hv:Value.okWide Tryz.prog W r b0 t v) (h:DataW.Trod enc Tryz.prog W base spare held t v d ps) :
 ∃ (A:Option Addr) (n c:Nat) (l:List α),v=.slice A n c∧n=l.length∧n≤c∧c≤maxLen∧Rd enc' size W W.heap.size A l∧n+1≤Rows.uptoBulk d∧∀ a∈l,∃ d',Pr a d'∧Rows.uptoBulk d'≤Rows.uptoBulk d:=by
 obtain ⟨a0,len,cap,rfl⟩:=okWide_slice ht hv
 obtain ⟨fuel,hf⟩:=h
 rcases open_slice ht hf with ⟨hcs,hx⟩ | ⟨a,len',cap',m,k,D,Pl,hcs,_,hl,hm,hmm,hx,hi⟩
 ·simp [Value.cells] at hcs
  obtain ⟨rfl,rfl,rfl⟩:=hcs
  refine ⟨none,0,0,[],rfl,rfl,Nat.le_refl _,Nat.zero_le _,Rd.nil,Z8b d,fun a ha=>by cases ha⟩
 ·simp [Value.cells] at hcs
  obtain ⟨rfl,rfl,rfl⟩:=hcs
  have hlm:len≤m:=by rw [hmm];split<;>omega
  have hd:d=.slice ((List.range len).map D) ((List.range (m-len)).map fun j=>D (len+j)):=by have:=congrArg Prod.fst hx;simpa using this
  have hbulk:∀ i,i<len→Rows.uptoBulk (D i)≤Rows.uptoBulk d:=by
   intro i hil
   have h1:=Z1p (d:=D i) (l:=(List.range len).map D) (List.mem_map.2 ⟨i,List.mem_range.2 hil,rfl⟩)
   rw [hd]
   simp only [Rows.uptoBulk]
   omega
  have hlen1:len+1≤Rows.uptoBulk d:=by
   have h1:=Y1A ((List.range len).map D)
   rw [List.length_map,List.length_range] at h1
   rw [hd]
   simp only [Rows.uptoBulk]
   omega
  have hall:∀ i,i<len→∃ y:α,CellsAt W (a.add (i*size)) (enc' y)∧Pr y (D i):=by
   intro i hil
   obtain ⟨cs',hc,htr⟩:=hi i (by omega)
   obtain ⟨y,rfl,hp⟩:=hread htr
   refine ⟨y,fun j u hu=>?_,hp⟩
   rw [hC] at hc
   obtain ⟨_,hcl,hat⟩:=World.cells?_some hc
   have hj:j<size:=by rw [←hz y];exact (List.getElem?_eq_some_iff.1 hu).1
   rw [hat j hj];exact hu
  have hl:∀ k,k≤len→∃ l:List α,l.length=k∧(∀ i (h:i<l.length),CellsAt W (a.add (i*size)) (enc' l[i]))∧∀ y∈l,∃ d',Pr y d'∧Rows.uptoBulk d'≤Rows.uptoBulk d:=by
   intro k
   induction k with
   | zero=>intro _;exact ⟨[],rfl,fun i h=>by simp at h,fun y hy=>by cases hy⟩
   | succ k ih=>
     intro hk
     obtain ⟨l,hll,hlc,hlp⟩:=ih (by omega)
     obtain ⟨y,hy,hyp⟩:=hall k (by omega)
     refine ⟨l++[y],by simp [hll],fun i h=>?_,fun z hz=>?_⟩
     ·rw [List.getElem_append]
      split
      ·exact hlc i _
      ·have hik:i=k:=by simp at h;omega
       subst hik
       simpa [hll] using hy
     ·rcases List.mem_append.1 hz with h1|h1
      ·exact hlp z h1
      ·simp at h1;subst h1;exact ⟨_,hyp,hbulk k (by omega)⟩
  obtain ⟨l,hll,hlc,hlp⟩:=hl len (Nat.le_refl _)
  refine ⟨some a,len,cap,l,rfl,hll.symm,by assumption,by assumption,fun hpl=>⟨a,rfl,?_,hlc⟩,hlen1,hlp⟩
  have hc0:=hlc 0 hpl
  have hlen0:0<(enc' l[0]).length:=by rw [hz];exact hpos
  have hcell:=hc0 0 _ (List.getElem?_eq_getElem hlen0)
  rw [Z0n,Nat.zero_mul,Z0n] at hcell
  unfold World.cell? at hcell
  cases hb:W.heap[a.block]? with
  | none=>rw [hb] at hcell;simp at hcell
  | some o=>exact Z0p hb
theorem Tryz.qAt:Tryz.prog.underlying 108=some (.struct (Tryz.prog.fieldsOf 108)):=by kernel_rfl
theorem Tryz.qfAt:(Tryz.prog.fieldsOf 108).toList.map (fun f=>(f.type,f.offset))=[(3,0),(73,1)]:=by kernel_rfl
theorem Tryz.qCh:Tryz.prog.underlying 75=some (.struct (Tryz.prog.fieldsOf 75)):=by kernel_rfl
theorem Tryz.qfCh:(Tryz.prog.fieldsOf 75).toList.map (fun f=>(f.type,f.offset))=[(3,0),(4,1),(73,2)]:=by kernel_rfl
theorem Tryz.qKy:Tryz.prog.underlying 78=some (.struct (Tryz.prog.fieldsOf 78)):=by kernel_rfl
theorem Tryz.qfKy:(Tryz.prog.fieldsOf 78).toList.map (fun f=>(f.type,f.offset))=[(3,0),(4,1),(5,2),(4,3),(4,4),(3,5)]:=by kernel_rfl
theorem Tryz.qInt:Tryz.prog.underlying 3=some (.int .i64):=by kernel_rfl
theorem Tryz.qcInt:Tryz.prog.cellsOf 3=1:=by kernel_rfl
theorem Tryz.qcBool:Tryz.prog.cellsOf 4=1:=by kernel_rfl
theorem Tryz.qcAt:Tryz.prog.cellsOf 108=5:=by kernel_rfl
theorem Tryz.qcCh:Tryz.prog.cellsOf 75=6:=by kernel_rfl
theorem Tryz.qcKy:Tryz.prog.cellsOf 78=6:=by kernel_rfl
section
variable {H:Type} {enc:TypeId×Value→H} {w:World} {base:Nat} {spare:Nat→Bool} {held:Bool} {fuel:Nat} {cs:List Value} {x:DataW H×List MemPlace}
theorem Z9u (h:DataW.trod enc Tryz.prog w base spare held fuel 73 cs=some x):∃ v:V,cs=[.int .u8 v.k,.int .i64 v.n,.int .u64 v.f,.string v.s]∧okV v∧v.s.size+1≤Rows.uptoBulk x.1:=by
 obtain ⟨xs,n,_,hx,hlen,hxl,hf⟩:=DataW.trod_struct Tryz.qV h
 obtain ⟨f0,e0,t0,o0⟩:=Z0G Tryz.qFd (i:=0) rfl
 obtain ⟨f1,e1,t1,o1⟩:=Z0G Tryz.qFd (i:=1) rfl
 obtain ⟨f2,e2,t2,o2⟩:=Z0G Tryz.qFd (i:=2) rfl
 obtain ⟨f3,e3,t3,o3⟩:=Z0G Tryz.qFd (i:=3) rfl
 have hsz:(Tryz.prog.fieldsOf 73).size=4:=by kernel_rfl
 have h0:=hf 0 f0 e0
 have h1:=hf 1 f1 e1
 have h2:=hf 2 f2 e2
 have h3:=hf 3 f3 e3
 rw [t0,o0,Tryz.qcU8] at h0
 rw [t1,o1,Tryz.qcI64] at h1
 rw [t2,o2,Tryz.qcU64] at h2
 rw [t3,o3,Tryz.qcStr] at h3
 rw [Tryz.qcV] at hlen
 rw [hsz] at hxl
 match cs,hlen,xs,hxl with
 | [c0,c1,c2,c3],_,[y0,y1,y2,y3],_=>
   obtain ⟨a,ha,_,wa⟩:=DataW.trod_int Tryz.qU8 (x:=y0) (by simpa using h0)
   obtain ⟨b,hb,_,wb⟩:=DataW.trod_int Tryz.qI64 (x:=y1) (by simpa using h1)
   obtain ⟨c,hc,_,wc⟩:=DataW.trod_int Tryz.qU64 (x:=y2) (by simpa using h2)
   obtain ⟨s,hs,hy,ws⟩:=DataW.trod_string Tryz.qStr (x:=y3) (by simpa using h3)
   simp at ha hb hc hs
   have ra:=wf_u8 wa
   have rb:=Y82 wb
   have rc:=Y81 wc
   refine ⟨⟨a,b,c,s⟩,by simp [ha,hb,hc,hs],⟨ra.1,ra.2,rb.1,rb.2,rc.1,rc.2⟩,?_⟩
   rw [hx]
   have hm:=Z1p (d:=y3.1) (l:=[y0,y1,y2,y3].map (·.1)) (by simp)
   have e1:Rows.uptoBulk y3.1=s.data.toList.length+1:=by rw [hy];rfl
   have e2:s.data.toList.length=s.size:=by rw [Array.length_toList];rfl
   simp only [Rows.uptoBulk]
   omega
theorem Y6t (h:DataW.trod enc Tryz.prog w base spare held fuel 75 cs=some x):∃ a:Ch,cs=Ch.enc a∧okV a.v∧a.v.s.size+1≤Rows.uptoBulk x.1:=by
 obtain ⟨xs,n,_,hx,hlen,hxl,hf⟩:=DataW.trod_struct Tryz.qCh h
 obtain ⟨f0,e0,t0,o0⟩:=Z0G Tryz.qfCh (i:=0) rfl
 obtain ⟨f1,e1,t1,o1⟩:=Z0G Tryz.qfCh (i:=1) rfl
 obtain ⟨f2,e2,t2,o2⟩:=Z0G Tryz.qfCh (i:=2) rfl
 have hsz:(Tryz.prog.fieldsOf 75).size=3:=by kernel_rfl
 have h0:=hf 0 f0 e0
 have h1:=hf 1 f1 e1
 have h2:=hf 2 f2 e2
 rw [t0,o0,Tryz.qcInt] at h0
 rw [t1,o1,Tryz.qcBool] at h1
 rw [t2,o2,Tryz.qcV] at h2
 rw [Tryz.qcCh] at hlen
 rw [hsz] at hxl
 match cs,hlen,xs,hxl with
 | [c0,c1,c2,c3,c4,c5],_,[y0,y1,y2],_=>
   obtain ⟨a,ha,_,_⟩:=DataW.trod_int Tryz.qInt (x:=y0) (by simpa using h0)
   obtain ⟨b,hb,_⟩:=DataW.trod_bool Tryz.qBool (x:=y1) (by simpa using h1)
   obtain ⟨v,hv,ho,hb2⟩:=Z9u (x:=y2) (by simpa using h2)
   simp at ha hb hv
   refine ⟨⟨a,b,v⟩,by simp [ha,hb,hv,Ch.enc],ho,?_⟩
   rw [hx]
   have hm:=Z1p (d:=y2.1) (l:=[y0,y1,y2].map (·.1)) (by simp)
   simp only [Rows.uptoBulk]
   omega
theorem Y1B (h:DataW.trod enc Tryz.prog w base spare held fuel 108 cs=some x):∃ a:At,cs=At.enc a∧okV a.v∧a.v.s.size+1≤Rows.uptoBulk x.1:=by
 obtain ⟨xs,n,_,hx,hlen,hxl,hf⟩:=DataW.trod_struct Tryz.qAt h
 obtain ⟨f0,e0,t0,o0⟩:=Z0G Tryz.qfAt (i:=0) rfl
 obtain ⟨f1,e1,t1,o1⟩:=Z0G Tryz.qfAt (i:=1) rfl
 have hsz:(Tryz.prog.fieldsOf 108).size=2:=by kernel_rfl
 have h0:=hf 0 f0 e0
 have h1:=hf 1 f1 e1
 rw [t0,o0,Tryz.qcInt] at h0
 rw [t1,o1,Tryz.qcV] at h1
 rw [Tryz.qcAt] at hlen
 rw [hsz] at hxl
 match cs,hlen,xs,hxl with
 | [c0,c1,c2,c3,c4],_,[y0,y1],_=>
   obtain ⟨a,ha,_,_⟩:=DataW.trod_int Tryz.qInt (x:=y0) (by simpa using h0)
   obtain ⟨v,hv,ho,hb2⟩:=Z9u (x:=y1) (by simpa using h1)
   simp at ha hv
   refine ⟨⟨a,v⟩,by simp [ha,hv,At.enc],ho,?_⟩
   rw [hx]
   have hm:=Z1p (d:=y1.1) (l:=[y0,y1].map (·.1)) (by simp)
   simp only [Rows.uptoBulk]
   omega
theorem Y6u (h:DataW.trod enc Tryz.prog w base spare held fuel 78 cs=some x):∃ a:Ky,cs=Ky.enc a∧True:=by
 obtain ⟨xs,n,_,hx,hlen,hxl,hf⟩:=DataW.trod_struct Tryz.qKy h
 obtain ⟨f0,e0,t0,o0⟩:=Z0G Tryz.qfKy (i:=0) rfl
 obtain ⟨f1,e1,t1,o1⟩:=Z0G Tryz.qfKy (i:=1) rfl
 obtain ⟨f2,e2,t2,o2⟩:=Z0G Tryz.qfKy (i:=2) rfl
 obtain ⟨f3,e3,t3,o3⟩:=Z0G Tryz.qfKy (i:=3) rfl
 obtain ⟨f4,e4,t4,o4⟩:=Z0G Tryz.qfKy (i:=4) rfl
 obtain ⟨f5,e5,t5,o5⟩:=Z0G Tryz.qfKy (i:=5) rfl
 have hsz:(Tryz.prog.fieldsOf 78).size=6:=by kernel_rfl
 have h0:=hf 0 f0 e0
 have h1:=hf 1 f1 e1
 have h2:=hf 2 f2 e2
 have h3:=hf 3 f3 e3
 have h4:=hf 4 f4 e4
 have h5:=hf 5 f5 e5
 rw [t0,o0,Tryz.qcInt] at h0
 rw [t1,o1,Tryz.qcBool] at h1
 rw [t2,o2,Tryz.qcU8] at h2
 rw [t3,o3,Tryz.qcBool] at h3
 rw [t4,o4,Tryz.qcBool] at h4
 rw [t5,o5,Tryz.qcInt] at h5
 rw [Tryz.qcKy] at hlen
 rw [hsz] at hxl
 match cs,hlen,xs,hxl with
 | [c0,c1,c2,c3,c4,c5],_,[y0,y1,y2,y3,y4,y5],_=>
   obtain ⟨a,ha,_,_⟩:=DataW.trod_int Tryz.qInt (x:=y0) (by simpa using h0)
   obtain ⟨b,hb,_⟩:=DataW.trod_bool Tryz.qBool (x:=y1) (by simpa using h1)
   obtain ⟨c,hc,_,_⟩:=DataW.trod_int Tryz.qU8 (x:=y2) (by simpa using h2)
   obtain ⟨e,he,_⟩:=DataW.trod_bool Tryz.qBool (x:=y3) (by simpa using h3)
   obtain ⟨f,hf,_⟩:=DataW.trod_bool Tryz.qBool (x:=y4) (by simpa using h4)
   obtain ⟨g,hg,_,_⟩:=DataW.trod_int Tryz.qInt (x:=y5) (by simpa using h5)
   simp at ha hb hc he hf hg
   exact ⟨⟨a,b,c,e,f,g⟩,by simp [ha,hb,hc,he,hf,hg,Ky.enc],trivial⟩
end
theorem Z5J {H:Type} {d:DataW H} {l:List (DataW H)} (hm:d∈l) (hk:Rows.uptoSmall H l=true):Rows.uptoBulk d≤1048576:=by
 have hb:Rows.uptoBulkAll l≤1048576:=of_decide_eq_true hk
 exact Nat.le_trans (Z1p hm) hb
open Go.ChangeShapes Go.WideShapes Go.ChangeAt Go.RowKit Go.Deep
set_option linter.unusedVariables false
set_option linter.constructorNameAsVariable false
set_option maxRecDepth 20000
theorem Z3U {α:Type} {enc':α→List Value} {size:Nat} {H:Type} {enc:TypeId×Value→H} {W:World} {base:Nat} {spare:Nat→Bool} {held:Bool} {t e:TypeId} {fuel0:Nat} {cs0:List Value} {x0:DataW H×List MemPlace} (Pr:α→DataW H→Prop)
 (ht:Tryz.prog.underlying t=some (.slice e)) (hC:Tryz.prog.cellsOf e=size) (hz:∀ a,(enc' a).length=size) (hpos:0<size)
 (hread:∀ {fuel:Nat} {cs:List Value} {x:DataW H×List MemPlace},DataW.trod enc Tryz.prog W base spare held fuel e cs=some x→∃ a:α,cs=enc' a∧Pr a x.1)
 (hf:DataW.trod enc Tryz.prog W base spare held fuel0 t cs0=some x0) :
 ∃ (A:Option Addr) (n c:Nat) (l:List α),cs0=[.slice A n c]∧n=l.length∧n≤c∧c≤maxLen∧Rd enc' size W W.heap.size A l∧n+1≤Rows.uptoBulk x0.1∧∀ a∈l,∃ d',Pr a d'∧Rows.uptoBulk d'≤Rows.uptoBulk x0.1:=by
 rcases open_slice ht hf with ⟨hcs,hx⟩ | ⟨a,len,cap,m,k,D,Pl,hcs,_,hl,hm,hmm,hx,hi⟩
 ·exact ⟨none,0,0,[],hcs,rfl,Nat.le_refl _,Nat.zero_le _,Rd.nil,Z8b _,fun a ha=>by cases ha⟩
 ·have hlm:len≤m:=by rw [hmm];split<;>omega
  have hd:x0.1=.slice ((List.range len).map D) ((List.range (m-len)).map fun j=>D (len+j)):=by have:=congrArg Prod.fst hx;simpa using this
  have hbulk:∀ i,i<len→Rows.uptoBulk (D i)≤Rows.uptoBulk x0.1:=by
   intro i hil
   have h1:=Z1p (d:=D i) (l:=(List.range len).map D) (List.mem_map.2 ⟨i,List.mem_range.2 hil,rfl⟩)
   rw [hd]
   simp only [Rows.uptoBulk]
   omega
  have hlen1:len+1≤Rows.uptoBulk x0.1:=by
   have h1:=Y1A ((List.range len).map D)
   rw [List.length_map,List.length_range] at h1
   rw [hd]
   simp only [Rows.uptoBulk]
   omega
  have hall:∀ i,i<len→∃ y:α,CellsAt W (a.add (i*size)) (enc' y)∧Pr y (D i):=by
   intro i hil
   obtain ⟨cs',hc,htr⟩:=hi i (by omega)
   obtain ⟨y,rfl,hp⟩:=hread htr
   refine ⟨y,fun j u hu=>?_,hp⟩
   rw [hC] at hc
   obtain ⟨_,hcl,hat⟩:=World.cells?_some hc
   have hj:j<size:=by rw [←hz y];exact (List.getElem?_eq_some_iff.1 hu).1
   rw [hat j hj];exact hu
  have hl:∀ k,k≤len→∃ l:List α,l.length=k∧(∀ i (h:i<l.length),CellsAt W (a.add (i*size)) (enc' l[i]))∧∀ y∈l,∃ d',Pr y d'∧Rows.uptoBulk d'≤Rows.uptoBulk x0.1:=by
   intro k
   induction k with
   | zero=>intro _;exact ⟨[],rfl,fun i h=>by simp at h,fun y hy=>by cases hy⟩
   | succ k ih=>
     intro hk
     obtain ⟨l,hll,hlc,hlp⟩:=ih (by omega)
     obtain ⟨y,hy,hyp⟩:=hall k (by omega)
     refine ⟨l++[y],by simp [hll],fun i h=>?_,fun z hz=>?_⟩
     ·rw [List.getElem_append]
      split
      ·exact hlc i _
      ·have hik:i=k:=by simp at h;omega
       subst hik
       simpa [hll] using hy
     ·rcases List.mem_append.1 hz with h1|h1
      ·exact hlp z h1
      ·simp at h1;subst h1;exact ⟨_,hyp,hbulk k (by omega)⟩
  obtain ⟨l,hll,hlc,hlp⟩:=hl len (Nat.le_refl _)
  refine ⟨some a,len,cap,l,hcs,hll.symm,by assumption,by assumption,fun hpl=>⟨a,rfl,?_,hlc⟩,hlen1,hlp⟩
  have hc0:=hlc 0 hpl
  have hlen0:0<(enc' l[0]).length:=by rw [hz];exact hpos
  have hcell:=hc0 0 _ (List.getElem?_eq_getElem hlen0)
  rw [Z0n,Nat.zero_mul,Z0n] at hcell
  unfold World.cell? at hcell
  cases hb:W.heap[a.block]? with
  | none=>rw [hb] at hcell;simp at hcell
  | some o=>exact Z0p hb
theorem Tryz.qOp:Tryz.prog.underlying 36=some (.struct (Tryz.prog.fieldsOf 36)):=by kernel_rfl
theorem Tryz.qfOp:(Tryz.prog.fieldsOf 36).toList.map (fun f=>(f.type,f.offset))=[(5,0),(3,1),(33,2),(34,3),(24,4)]:=by kernel_rfl
theorem Tryz.qcOp:Tryz.prog.cellsOf 36=5:=by kernel_rfl
theorem Tryz.qcSR:Tryz.prog.cellsOf 33=1:=by kernel_rfl
theorem Tryz.qcSA:Tryz.prog.cellsOf 34=1:=by kernel_rfl
theorem Tryz.qcSC:Tryz.prog.cellsOf 24=1:=by kernel_rfl
theorem Tryz.qslOp:Tryz.prog.underlying 37=some (.slice 36):=by kernel_rfl
section
variable {H:Type} {enc:TypeId×Value→H} {w:World} {base:Nat} {spare:Nat→Bool} {held:Bool} {fuel:Nat} {cs:List Value} {x:DataW H×List MemPlace}
theorem Y4J (h:DataW.trod enc Tryz.prog w base spare held fuel 21 cs=some x):∃ a:Int,cs=Z46 a∧True:=by
 obtain ⟨a,ha,_,_⟩:=DataW.trod_int Tryz.uI32 h
 exact ⟨a,ha,trivial⟩
def opPr {H:Type} (w:World) (o:OpS) (d:DataW H):Prop:=
 (Z11 w w.heap.size o.Ar o.o.r∧RdAt w w.heap.size o.As o.o.s∧RdCh w w.heap.size o.Ap o.o.p)∧(Rows.uptoBulk d≤100000000→okOp o.o)
end
open Go.ChangeShapes Go.WideShapes Go.ChangeAt Go.RowKit Go.Deep
set_option linter.unusedVariables false
set_option linter.constructorNameAsVariable false
set_option maxRecDepth 20000
theorem Z45 {α:Type} {f:α→Nat} {l:List α} {b:Nat} (h:∀ x∈l,f x≤b):(l.map f).sum≤l.length*b:=by
 induction l with
 | nil=>simp
 | cons a l ih=>
   have h1:=h a (by simp)
   have h2:=ih (fun x hx=>h x (List.mem_cons_of_mem _ hx))
   rw [List.map_cons,List.sum_cons,List.length_cons,Nat.add_mul];omega
section
variable {H:Type} {enc:TypeId×Value→H} {w:World} {base:Nat} {spare:Nat→Bool} {held:Bool} {fuel:Nat} {cs:List Value} {x:DataW H×List MemPlace}
end
open Go.ChangeShapes Go.WideShapes Go.ChangeAt Go.RowKit Go.Deep
set_option linter.unusedVariables false
set_option linter.constructorNameAsVariable false
set_option maxRecDepth 20000
section
variable {H:Type} {enc:TypeId×Value→H} {w:World} {base:Nat} {spare:Nat→Bool} {held:Bool} {fuel:Nat} {cs:List Value} {x:DataW H×List MemPlace}
def Y83 {H:Type} (w:World) (o:OpS) (d:DataW H):Prop:=(opPr w o d∧(Rows.uptoBulk d≤1048576→szO o.o≤2199026401281))∧capO o
theorem Y7Y {x:List OpS} (hn:x.length≤1048576) (h:∀ o∈x,szO o.o≤2199026401281):szX x≤2305850000000000000:=by
 have h1:szX x≤x.length*2199026401281:=Z45 h
 have h2:x.length*2199026401281≤1048576*2199026401281:=Nat.mul_le_mul_right _ hn
 omega
theorem Y4K (h:DataW.trod enc Tryz.prog w base spare held fuel 36 cs=some x):∃ o:OpS,cs=OpS.enc o∧Y83 w o x.1:=by
 obtain ⟨xs,n,_,hx,hlen,hxl,hf⟩:=DataW.trod_struct Tryz.qOp h
 obtain ⟨f0,e0,t0,o0⟩:=Z0G Tryz.qfOp (i:=0) rfl
 obtain ⟨f1,e1,t1,o1⟩:=Z0G Tryz.qfOp (i:=1) rfl
 obtain ⟨f2,e2,t2,o2⟩:=Z0G Tryz.qfOp (i:=2) rfl
 obtain ⟨f3,e3,t3,o3⟩:=Z0G Tryz.qfOp (i:=3) rfl
 obtain ⟨f4,e4,t4,o4⟩:=Z0G Tryz.qfOp (i:=4) rfl
 have hsz:(Tryz.prog.fieldsOf 36).size=5:=by kernel_rfl
 have h0:=hf 0 f0 e0
 have h1:=hf 1 f1 e1
 have h2:=hf 2 f2 e2
 have h3:=hf 3 f3 e3
 have h4:=hf 4 f4 e4
 rw [t0,o0,Tryz.qcU8] at h0
 rw [t1,o1,Tryz.qcInt] at h1
 rw [t2,o2,Tryz.qcSR] at h2
 rw [t3,o3,Tryz.qcSA] at h3
 rw [t4,o4,Tryz.qcSC] at h4
 rw [Tryz.qcOp] at hlen
 rw [hsz] at hxl
 match cs,hlen,xs,hxl with
 | [c0,c1,c2,c3,c4],_,[y0,y1,y2,y3,y4],_=>
   obtain ⟨a,ha,_,wa⟩:=DataW.trod_int Tryz.qU8 (x:=y0) (by simpa using h0)
   obtain ⟨b,hb,_,wb⟩:=DataW.trod_int Tryz.qInt (x:=y1) (by simpa using h1)
   obtain ⟨A2,n2,k2,r,hr,m2,g2,g2',R2,z2,_⟩:=Z3U (fun _ _=>True) Tryz.slI32 Tryz.clI32 Z1d (by omega) Y4J (x0:=y2) (by simpa using h2)
   obtain ⟨A3,n3,k3,s,hs,m3,g3,g3',R3,z3,P3⟩:=Z3U (fun a d=>okV a.v∧a.v.s.size+1≤Rows.uptoBulk d) Tryz.slAt Tryz.qcAt At.enc_len (by omega) Y1B (x0:=y3) (by simpa using h3)
   obtain ⟨A4,n4,k4,p,hp,m4,g4,g4',R4,z4,P4⟩:=Z3U (fun a d=>okV a.v∧a.v.s.size+1≤Rows.uptoBulk d) Tryz.slCh Tryz.qcCh Ch.enc_len (by omega) Y6t (x0:=y4) (by simpa using h4)
   subst m2 m3 m4
   simp at ha hb hr hs hp
   refine ⟨⟨⟨a,b,r,s,p⟩,A2,k2,A3,k3,A4,k4⟩,by simp [ha,hb,hr,hs,hp,OpS.enc],⟨⟨⟨R2,R3,R4⟩,fun hbu=>?_⟩,fun hbu=>?_⟩,⟨g2,g2'⟩,⟨g3,g3'⟩,g4,g4'⟩
   ·rw [hx] at hbu
    have hm2:=Z1p (d:=y2.1) (l:=[y0,y1,y2,y3,y4].map (·.1)) (by simp)
    have hm3:=Z1p (d:=y3.1) (l:=[y0,y1,y2,y3,y4].map (·.1)) (by simp)
    have hm4:=Z1p (d:=y4.1) (l:=[y0,y1,y2,y3,y4].map (·.1)) (by simp)
    simp only [Rows.uptoBulk] at hbu
    refine ⟨fun c hc=>?_,fun c hc=>?_,?_,?_,?_⟩
    ·obtain ⟨d',⟨h1,h2⟩,h3⟩:=P3 c hc
     exact h1
    ·obtain ⟨d',⟨h1,h2⟩,h3⟩:=P4 c hc
     exact ⟨h1,by omega⟩
    ·show r.length≤_;omega
    ·show s.length≤_;omega
    ·show p.length≤_;omega
   ·rw [hx] at hbu
    have hm2:=Z1p (d:=y2.1) (l:=[y0,y1,y2,y3,y4].map (·.1)) (by simp)
    have hm3:=Z1p (d:=y3.1) (l:=[y0,y1,y2,y3,y4].map (·.1)) (by simp)
    have hm4:=Z1p (d:=y4.1) (l:=[y0,y1,y2,y3,y4].map (·.1)) (by simp)
    simp only [Rows.uptoBulk] at hbu
    have hA:szA s≤s.length*1048576:=Z45 (fun c hc=>by obtain ⟨d',⟨h1,h2⟩,h3⟩:=P3 c hc;omega)
    have hC:szC p≤p.length*1048576:=Z45 (fun c hc=>by obtain ⟨d',⟨h1,h2⟩,h3⟩:=P4 c hc;omega)
    show 1+r.length+s.length+p.length+szA s+szC p≤_
    have h1:s.length*1048576≤1048576*1048576:=Nat.mul_le_mul_right _ (by omega)
    have h2:p.length*1048576≤1048576*1048576:=Nat.mul_le_mul_right _ (by omega)
    omega
end
open Go.ChangeShapes Go.WideShapes Go.ChangeAt Go.RowKit Go.Deep
set_option linter.unusedVariables false
set_option linter.constructorNameAsVariable false
set_option maxRecDepth 20000
theorem Tryz.qCl:Tryz.prog.underlying 41=some (.struct (Tryz.prog.fieldsOf 41)):=by kernel_rfl
theorem Tryz.qfCl:(Tryz.prog.fieldsOf 41).toList.map (fun f=>(f.type,f.offset))=[(21,0),(34,1)]:=by kernel_rfl
theorem Tryz.qcCl:Tryz.prog.cellsOf 41=2:=by kernel_rfl
theorem Tryz.qcI32':Tryz.prog.cellsOf 21=1:=by kernel_rfl
theorem Tryz.qslCl:Tryz.prog.underlying 23=some (.slice 41):=by kernel_rfl
section
variable {H:Type} {enc:TypeId×Value→H} {w:World} {base:Nat} {spare:Nat→Bool} {held:Bool} {fuel:Nat} {cs:List Value} {x:DataW H×List MemPlace}
def clPr {H:Type} (w:World) (o:ClS) (d:DataW H):Prop:=
 RdAt w w.heap.size o.As o.c.s∧okVr o.c.s∧(Rows.uptoBulk d≤100000000→o.c.s.length≤100000000)
def Y84 {H:Type} (w:World) (o:ClS) (d:DataW H):Prop:=clPr w o d∧o.c.s.length≤o.cs∧o.cs≤maxLen
theorem Y4L (h:DataW.trod enc Tryz.prog w base spare held fuel 41 cs=some x):∃ o:ClS,cs=ClS.enc o∧Y84 w o x.1:=by
 obtain ⟨xs,n,_,hx,hlen,hxl,hf⟩:=DataW.trod_struct Tryz.qCl h
 obtain ⟨f0,e0,t0,o0⟩:=Z0G Tryz.qfCl (i:=0) rfl
 obtain ⟨f1,e1,t1,o1⟩:=Z0G Tryz.qfCl (i:=1) rfl
 have hsz:(Tryz.prog.fieldsOf 41).size=2:=by kernel_rfl
 have h0:=hf 0 f0 e0
 have h1:=hf 1 f1 e1
 rw [t0,o0,Tryz.qcI32'] at h0
 rw [t1,o1,Tryz.qcSA] at h1
 rw [Tryz.qcCl] at hlen
 rw [hsz] at hxl
 match cs,hlen,xs,hxl with
 | [c0,c1],_,[y0,y1],_=>
   obtain ⟨a,ha,_,wa⟩:=DataW.trod_int Tryz.uI32 (x:=y0) (by simpa using h0)
   obtain ⟨A3,n3,k3,s,hs,m3,g3,g4,R3,z3,P3⟩:=Z3U (fun a d=>okV a.v∧a.v.s.size+1≤Rows.uptoBulk d) Tryz.slAt Tryz.qcAt At.enc_len (by omega) Y1B (x0:=y1) (by simpa using h1)
   subst m3
   simp at ha hs
   refine ⟨⟨⟨a,s⟩,A3,k3⟩,by simp [ha,hs,ClS.enc],⟨R3,fun c hc=>?_,fun hbu=>?_⟩,g3,g4⟩
   ·obtain ⟨d',⟨h1,h2⟩,h3⟩:=P3 c hc
    exact h1
   ·rw [hx] at hbu
    have hm3:=Z1p (d:=y1.1) (l:=[y0,y1].map (·.1)) (by simp)
    simp only [Rows.uptoBulk] at hbu
    show s.length≤_
    omega
end
end Go.Proofs.YtnmedachaeanbaaGreatDoor
