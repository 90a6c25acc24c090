/- Merged texts. -/
import Derived.Test.YtnmedachaeanbaaGreatDoorB10
import Derived.Lib.Overlaps
namespace Go.Proofs.YtnmedachaeanbaaGreatDoor
set_option maxRecDepth 100000
set_option maxHeartbeats 400000
open Go.RowKit
open Go.Lib (hid)
set_option linter.unusedVariables false
set_option linter.unusedSimpArgs false
def Y5a (r:List At) (w:World) (e:Ending) (w':World):Prop:=
 ∃ A c,e=.returned (.slice A r.length c)∧OwAt w' w.heap.size (.slice A r.length c) r∧Below w.heap.size w w'
def Y7a (r:List Ch) (w:World) (e:Ending) (w':World):Prop:=
 ∃ A c,e=.returned (.slice A r.length c)∧OwCh w' w.heap.size (.slice A r.length c) r∧Below w.heap.size w w'
theorem Y3c (A1 A2:Option Addr) (n1 n2 c1 c2:Nat) (set:List At) (p:List Ch) (w:World)
 (hn1:n1=set.length) (hn2:n2=p.length) (h1:RdAt w w.heap.size A1 set) (h2:RdCh w w.heap.size A2 p)
 (hb1:n1≤100000000) (hb2:n2≤100000000) (hc1:n1≤c1) (hcm:c1≤maxLen) :
 Calls Tryz.prog 247 #[.slice A1 n1 c1,.slice A2 n2 c2] w (Y5a (Z1i p set) w):=by
 unfold maxLen at hcm
 have N1:=hid hn1
 have N2:=hid hn2
 generalize hR:Z1i p set=R
 have HR:=hid hR
 clear hn1 hn2 hR
 go_enter Tryz.func247,Tryz.ntmps247
 go_wp2
 go_step3
 go_wp2
 go_step3
 go_wp2
 go_loopg [5,6,11] n2 (fun g ov iv kv wr => ∃ (k i:Nat) (o:List At),k≤n2∧i≤n1∧g=n2-k∧iv=.int .i64 i∧kv=.int .i64 k∧OwAt wr w.heap.size ov o∧o.length≤i+k ∧
  Below w.heap.size w wr∧Hid (o++Z1i (p.drop k) (set.drop i)=R))
 case atStart=>exact ⟨0,0,[],by omega,by omega,rfl,rfl,rfl,Ow.nil _ _,by simp,Below.refl _ _,hid (by simpa using HR.out)⟩
 case round=>
  obtain ⟨k,i,o,hk,hi,hg,rfl,rfl,hown,hol,hbw,HI⟩:=hrel
  have HG:=hid hg
  clear hg HR
  by_cases hlt:k<n2
  ·have hkp:k<p.length:=by have:=N2.out;omega
   obtain ⟨ad2,c,rfl,_,hd2,_,hc2⟩:=(h2.below hbw (Nat.le_refl _)).el hkp
   have HI':Hid (o++Z2c c (p.drop (k+1)) (set.drop i)=R):=hid (by rw [←HI.out,hd2];rfl)
   clear HI hkp hd2
   obtain ⟨ck,cg,va,vn,vf,vs⟩:=c
   obtain ⟨q0,q1,q2,q3,q4,q5⟩:=Z0I hc2
   clear hc2
   go_wp2_with (fail)
   obtain ⟨wo,rfl⟩:∃ wo:World,wo=wr:=⟨_,rfl⟩
   go_loopg [5,6] (n1-i) (fun g ov iv wi => ∃ (i:Nat) (o:List At),i≤n1∧g=n1-i∧iv=.int .i64 i∧OwAt wi w.heap.size ov o∧o.length≤i+k ∧
    Below w.heap.size w wi∧wi.heap[wo.heap.size]? = some (.cells #[.int .i64 ck,.bool cg,.int .u8 va,.int .i64 vn,.int .u64 vf,.string vs] 75 (0,0))∧wb ov≠some wo.heap.size ∧
    Hid (o++Z2c ⟨ck,cg,⟨va,vn,vf,vs⟩⟩ (p.drop (k+1)) (set.drop i)=R))
   case atStart=>
    refine ⟨i,o,hi,rfl,rfl,hown.alloc _,hol,hbw.alloc hbw.size _,heap_alloc_new _ _,fun e=>?_,HI'⟩
    have:=(hown.wb_lt _ e).2;omega
   case round=>
    clear q0 q1 q2 q3 q4 q5 hi hown hol hbw HI'
    obtain ⟨i,o,hi,hg,rfl,hown,hol,hbw,hbx,hwb,HI⟩:=hrel
    have HG2:=hid hg
    clear hg
    obtain ⟨b0,b1,b2,b3,b4,b5⟩:=Z4a hbx
    have HBX:=hid hbx
    have HWB:=hid hwb
    clear hbx hwb
    by_cases hil:i<n1
    ·have hip:i<set.length:=by have:=N1.out;omega
     obtain ⟨ad1,a,rfl,_,hd1,_,hc1⟩:=(h1.below hbw (Nat.le_refl _)).el hip
     obtain ⟨ek,ea,en,ef,es⟩:=a
     obtain ⟨r0,r1,r2,r3,r4⟩:=Z0P hc1
     by_cases hak:ek<ck
     ·go_wp2_with (first
       | go_quiet (fail)
       | (at_builtin;refine Z5M (m:=[⟨ek,⟨ea,en,ef,es⟩⟩]) rfl (.tmp 30) (.tmp 35) rfl rfl (by first|exact (hown.drewN _).alloc _|exact hown.alloc _) _ _ 1 1 rfl rfl (by exact Z3j _ _ _ rfl) (by simp only [List.length_singleton];omega) (by have:=hbw.size;simp;omega) ?_;intro v' w' hown' hgr hv'))
      obtain ⟨s1,s2,s3⟩:=Z5o hown hbw (Nat.le_refl _) hgr hv'
      go_roundg (n1-(i+1))
      case measure=>have:=HG2.out;omega
      case rel=>
       exact ⟨i+1,o++[⟨ek,⟨ea,en,ef,es⟩⟩],by omega,rfl,by go_num,hown',by simp;omega,s1,s2 _ _ HBX.out HWB.out,s3 _ (Z0p HBX.out) HWB.out,
        hid (by rw [←HI.out,hd1,Z8v _ _ _ _ hak,List.append_assoc];rfl)⟩
     ·by_cases hek:ek=ck
      ·subst hek
       cases cg
       ·go_wp2_with (first
         | go_quiet (fail)
         | (at_builtin;refine Z5M (m:=[⟨ek,⟨va,vn,vf,vs⟩⟩]) rfl (.tmp 51) (.tmp 57) rfl rfl (by first|exact (hown.drewN _).alloc _|exact hown.alloc _) _ _ 1 1 rfl rfl (by exact Z3j _ _ _ rfl) (by simp only [List.length_singleton];omega) (by have:=hbw.size;simp;omega) ?_;intro v' w' hown' hgr hv'))
        obtain ⟨s1,s2,s3⟩:=Z5o hown hbw (Nat.le_refl _) hgr hv'
        go_roundg (n2-(k+1))
        case measure=>have:=HG.out;omega
        case rel=>
         exact ⟨k+1,i+1,o++[⟨ek,⟨va,vn,vf,vs⟩⟩],by omega,by omega,rfl,by go_num,by go_num,hown',by simp;omega,s1,
          hid (by rw [←HI.out,hd1,Z62 _ _ _ _ rfl,List.append_assoc];rfl)⟩
       ·go_wp2_with (go_quiet (fail))
        go_roundg (n2-(k+1))
        case measure=>have:=HG.out;omega
        case rel=>
         exact ⟨k+1,i+1,o,by omega,by omega,rfl,by go_num,by go_num,hown,by omega,Z0C hbw _,
          hid (by rw [←HI.out,hd1,Z62 _ _ _ _ rfl];rfl)⟩
      ·have hek':(ek==ck)=false:=beq_eq_false_iff_ne.2 hek
       cases cg
       ·go_wp2_with (first
         | go_quiet (fail)
         | (at_builtin;refine Z5M (m:=[⟨ck,⟨va,vn,vf,vs⟩⟩]) rfl (.tmp 51) (.tmp 57) rfl rfl (by first|exact (hown.drewN _).alloc _|exact hown.alloc _) _ _ 1 1 rfl rfl (by exact Z3j _ _ _ rfl) (by simp only [List.length_singleton];omega) (by have:=hbw.size;simp;omega) ?_;intro v' w' hown' hgr hv'))
        obtain ⟨s1,s2,s3⟩:=Z5o hown hbw (Nat.le_refl _) hgr hv'
        go_roundg (n2-(k+1))
        case measure=>have:=HG.out;omega
        case rel=>
         exact ⟨k+1,i,o++[⟨ck,⟨va,vn,vf,vs⟩⟩],by omega,by omega,rfl,rfl,by go_num,hown',by simp;omega,s1,
          hid (by rw [←HI.out,hd1,Z49 _ _ _ _ (by show ck<ek;omega),List.append_assoc];rfl)⟩
       ·go_wp2_with (go_quiet (fail))
        go_roundg (n2-(k+1))
        case measure=>have:=HG.out;omega
        case rel=>
         exact ⟨k+1,i,o,by omega,by omega,rfl,rfl,by go_num,hown,by omega,Z0C hbw _,
          hid (by rw [←HI.out,hd1,Z49 _ _ _ _ (by show ck<ek;omega)];rfl)⟩
    ·have hd1:set.drop i=[]:=List.drop_eq_nil_of_le (by have:=N1.out;omega)
     have HD1:=hid hd1
     clear hd1
     cases cg
     ·go_wp2_with (first
       | go_quiet (fail)
       | (at_builtin;refine Z5M (m:=[⟨ck,⟨va,vn,vf,vs⟩⟩]) rfl (.tmp 62) (.tmp 68) rfl rfl (by first|exact (hown.drewN _).alloc _|exact hown.alloc _) _ _ 1 1 rfl rfl (by exact Z3j _ _ _ rfl) (by simp only [List.length_singleton];omega) (by have:=hbw.size;simp;omega) ?_;intro v' w' hown' hgr hv'))
      obtain ⟨s1,s2,s3⟩:=Z5o (nq:=0) hown hbw (Nat.le_refl _) hgr hv'
      go_roundg (n2-(k+1))
      case measure=>have:=HG.out;omega
      case rel=>
       exact ⟨k+1,i,o++[⟨ck,⟨va,vn,vf,vs⟩⟩],by omega,by omega,rfl,rfl,by go_num,hown',by simp;omega,s1,
        hid (by rw [←HI.out,HD1.out,Z53,List.append_assoc];rfl)⟩
     ·go_wp2_with (go_quiet (fail))
      go_roundg (n2-(k+1))
      case measure=>have:=HG.out;omega
      case rel=>
       exact ⟨k+1,i,o,by omega,by omega,rfl,rfl,by go_num,hown,by omega,hbw,
        hid (by rw [←HI.out,HD1.out,Z53];rfl)⟩
  ·have hkn:k=n2:=by omega
   have hdp:p.drop k=[]:=List.drop_eq_nil_of_le (by have:=N2.out;omega)
   have HDP:=hid hdp
   clear hdp hkn
   go_wp2_with (first
    | (at_builtin;refine Z5M (m:=set.drop i) rfl (.tmp 71) (.tmp 74) rfl rfl (by exact hown) _ _ _ _ rfl (by rw [List.length_drop,←N1.out]) (by have hx:=(h1.below hbw (Nat.le_refl _)).cut (k:=i) (cap:=c1) (by have:=N1.out;omega) (by have:=N1.out;omega);exact hx) (by have:=N1.out;rw [List.length_drop];omega) (by exact hbw.size) ?_;intro v' w' hown' hgr hv'))
   all_goals
    have e:o++set.drop i=R:=by have:=HI.out;rw [HDP.out] at this;exact this
    rw [e] at hown'
    obtain ⟨A',c',rfl,_,_⟩:=hown'.form
    go_ret
    exact ⟨A',c',rfl,hown',Z3i hbw hbw.size hown (Nat.le_refl _) hgr⟩
section
variable {α:Type} {enc:α→List Value} {size:Nat} {e:TypeId} {w:World} {base n c:Nat} {A:Option Addr} {l:List α}
theorem Ow.cap (h:Ow enc size e w base (.slice A n c) l):l.length≤c∧c≤maxLen:=by
 obtain ⟨_,_,ev,hle,hcm⟩:=h.form
 injection ev with _ _ ev
 exact ⟨by omega,by omega⟩
end
open Go.RowKit
set_option linter.unusedVariables false
section
variable {α:Type} {enc:α→List Value} {size:Nat} {e:TypeId} {w w':World} {base n c:Nat} {l:List α} {P:Program}
theorem Z8w (hs:∀ a,(enc a).length=size) (l:List α) (i:Nat):(l.flatMap enc).take (i*size)=(l.take i).flatMap enc:=by
 induction l generalizing i with
 | nil=>simp
 | cons a l ih=>
   cases i with
   | zero=>simp
   | succ i=>
     simp only [List.flatMap_cons,List.take_succ_cons]
     rw [List.take_append,hs,Nat.add_mul,Nat.one_mul,List.take_of_length_le (by rw [hs];omega),Nat.add_sub_cancel,ih]
theorem Y3d (hs:∀ a,(enc a).length=size) (l:List α) (i:Nat):(l.flatMap enc).drop (i*size)=(l.drop i).flatMap enc:=by
 induction l generalizing i with
 | nil=>simp
 | cons a l ih=>
   cases i with
   | zero=>simp
   | succ i=>
     simp only [List.flatMap_cons,List.drop_succ_cons]
     rw [List.drop_append,hs,Nat.add_mul,Nat.one_mul,List.drop_of_length_le (by rw [hs];omega),Nat.add_sub_cancel,ih]
     rfl
theorem Ow.row {A:Option Addr} (h:Ow enc size e w base (.slice A n c) l) (hl:0<l.length) :
 ∃ g cur,A=some ⟨g,0,none⟩∧n=l.length∧base≤g∧w.heap[g]? = some (.cells cur e (0,0))∧l.length≤c∧c≤maxLen∧cur.size=c*size∧cur.toList.take (l.length*size)=l.flatMap enc:=by
 rcases h with ⟨rfl,_⟩ | ⟨_,⟨_,h0⟩ | ⟨g,cap,cur,hv,hb,hg,h1,h2,h3,h4⟩⟩
 ·simp at hl
 ·omega
 ·injection hv with hA hn hc
  subst hA;subst hn;subst hc
  exact ⟨g,cur,rfl,rfl,hb,hg,h1,h2,h3,h4⟩
theorem Z54 (g i:Nat):(⟨g,0,none⟩:Addr).add i=⟨g,i,none⟩:=by
 unfold Addr.add
 split
 ·rename_i h;rw [h]
 ·simp
theorem Z9L (t:TypeId) (i0:TypeInfo) (hi:P.info? t=some i0) (hsz:i0.size=size) (hs:∀ a,(enc a).length=size) (h1:∀ a,∀ u∈enc a,u.oneCell'=true)
 {A:Option Addr} (h:Ow enc size e w base (.slice A n c) l) {i:Nat} (hil:i<l.length) (b:α) {cs:Array Value} (hcs:cs.toList=enc b) {p:Addr} (hp:A.map (·.add (i*size))=some p) :
 ∃ w',(Instr.storeAt t (.pointer (some p)) (.agg cs)).run P w=.ok () w'∧Ow enc size e w' base (.slice A n c) (l.set i b)∧w.grownBy w' (wb (.slice A n c)):=by
 obtain ⟨g,cur,rfl,hn,hb,hg,hlc,hcm,hcur,htake⟩:=h.row (by omega)
 simp only [Option.map_some,Z54,Option.some.injEq] at hp
 subst hp
 have hcsz:cs.size=size:=by rw [←Array.length_toList,hcs,hs]
 have hfit:i*size+0+(enc b).length≤cur.size:=by
  rw [hs,hcur,Nat.add_zero,←Nat.succ_mul]
  exact Nat.mul_le_mul_right _ (by omega)
 have hst:=run_storeCells_at P g (i*size) e (enc b) 0 cur w hg hfit (h1 b)
 refine ⟨w.setRow g (cur.toList.take (i*size+0)++enc b++cur.toList.drop (i*size+0+(enc b).length)).toArray,?_,?_,?_⟩
 ·simp [Instr.storeAt,Instr.sureAddr,storeVar,sizeOf,typeInfo,hi,hsz,Value.cells,hcsz,hcs]
  simpa using hst
 ·refine .inr ⟨by rw [Z39 hs],.inr ⟨g,c,_,by rw [hn,List.length_set],hb,setRow_heap w g cur _ e _ hg,by rw [List.length_set];exact hlc,hcm,?_,?_⟩⟩
  ·simp only [List.size_toArray,List.length_append,List.length_take,List.length_drop,Array.length_toList]
   omega
  ·rw [List.length_set,Nat.add_zero]
   have e1:(l.set i b).flatMap enc=(l.take i).flatMap enc++(enc b++(l.drop (i+1)).flatMap enc):=by
    rw [List.set_eq_take_append_cons_drop,if_pos hil,List.flatMap_append,List.flatMap_cons]
   have hle:i*size≤l.length*size:=Nat.mul_le_mul_right _ (by omega)
   have hle2:(i+1)*size≤l.length*size:=Nat.mul_le_mul_right _ hil
   have e2:cur.toList.take (i*size)=(l.take i).flatMap enc:=by
    rw [←Z8w hs,←htake,List.take_take,Nat.min_eq_left hle]
   have e3:(cur.toList.drop ((i+1)*size)).take (l.length*size-(i+1)*size)=(l.drop (i+1)).flatMap enc:=by
    rw [←Y3d hs,←htake,List.drop_take]
   rw [e1,←e2,←e3]
   simp only [List.append_assoc]
   have hl1:(cur.toList.take (i*size)).length=i*size:=by
    rw [List.length_take,Array.length_toList,hcur,Nat.min_eq_left]
    exact Nat.le_trans hle (Nat.mul_le_mul_right _ hlc)
   rw [List.take_append,hl1,List.take_of_length_le (by rw [hl1];exact hle),List.take_append,hs,List.take_of_length_le (l:=enc b) (by rw [hs];rw [Nat.succ_mul] at hle2;omega)]
   congr 3
   ·rw [Nat.succ_mul];omega
   ·rw [Nat.succ_mul]
 ·refine ⟨rfl,rfl,rfl,by simp,fun k _ hk=>setRow_other w g k _ (fun e=>hk ?_)⟩
  have:0<c:=by omega
  cases c with
  | zero=>omega
  | succ c=>simp [wb,e]
theorem Z7G (t ty:TypeId) (ht:P.underlying t=some (.slice e)) (i0:TypeInfo) (z:Value) (hi:P.info? e=some i0) (hz:i0.zero=some z) (hzs:z.cells.size=size) (hzo:∀ u∈z.cells.toList,u.oneCell'=true) (hs:∀ a,(enc a).length=size)
 {A X:Option Addr} (h:Ow enc size e w base (.slice A n c) l) {i k:Nat} (hil:i≤l.length) (hX:l.length-i=0∨X=A.map (·.add (i*size))) :
 ∃ w',(Builtin.clear_ #[t] ty #[.slice X (l.length-i) k]).run P w=.ok (.tuple #[]) w'∧Ow enc size e w' base (.slice A i c) (l.take i)∧w.grownBy w' (wb (.slice A n c)):=by
 rcases Nat.eq_zero_or_pos (l.length-i) with h0|h0
 ·have hli:l.take i=l:=List.take_of_length_le (by omega)
  have hil':i=l.length:=by omega
  refine ⟨w,?_,?_,World.grownBy.refl w _⟩
  ·rw [h0]
   cases X<;>simp [Builtin.clear_,run_underlying ht]
  ·rw [hli,hil']
   rcases Nat.eq_zero_or_pos l.length with hz0|hp
   ·have hnil:l=[]:=List.eq_nil_of_length_eq_zero hz0
    subst hnil
    rcases h with ⟨_,A',hv⟩ | ⟨h1,⟨hv,hn⟩ | ⟨g,cap,cur,hv,r⟩⟩
    ·injection hv with a b c;subst a;subst b;subst c;exact .inl ⟨rfl,_,rfl⟩
    ·injection hv with a b c;subst a;subst b;subst c;exact .inl ⟨rfl,_,rfl⟩
    ·injection hv with a b c;subst a;subst b;subst c;exact .inr ⟨h1,.inr ⟨g,_,cur,rfl,r⟩⟩
   ·obtain ⟨g,cur,rfl,hn,r⟩:=h.row hp
    rw [←hn];exact h
 ·obtain ⟨g,cur,rfl,hn,hb,hg,hlc,hcm,hcur,htake⟩:=h.row (by omega)
  rcases hX with hX|rfl
  ·omega
  have hzl:(Builtin.zeroCells z.cells (l.length-i)).toList.length=(l.length-i)*size:=by rw [Array.length_toList,size_zeroCells,hzs]
  have hzo':∀ u∈(Builtin.zeroCells z.cells (l.length-i)).toList,u.oneCell'=true:=by
   intro u hu
   simp only [Builtin.zeroCells,Array.toList_map,List.mem_map,Array.mem_toList_iff] at hu
   obtain ⟨j,_,rfl⟩:=hu
   have hpos:0<z.cells.size:=by
    rcases Nat.eq_zero_or_pos z.cells.size with hz0|hp
    ·rename_i hj;rw [hz0,Nat.mul_zero] at hj;simp at hj
    ·exact hp
   have hlt:j % z.cells.size<z.cells.size:=Nat.mod_lt _ hpos
   rw [getElem!_pos z.cells _ hlt]
   exact hzo _ (Array.getElem_mem_toList hlt)
  have hfit:i*size+0+(Builtin.zeroCells z.cells (l.length-i)).toList.length≤cur.size:=by
   rw [hzl,hcur,Nat.add_zero,←Nat.add_mul]
   exact Nat.mul_le_mul_right _ (by omega)
  have hst:=run_storeCells_at P g (i*size) e _ 0 cur w hg hfit hzo'
  refine ⟨w.setRow g (cur.toList.take (i*size+0)++(Builtin.zeroCells z.cells (l.length-i)).toList++cur.toList.drop (i*size+0+(Builtin.zeroCells z.cells (l.length-i)).toList.length)).toArray,?_,?_,?_⟩
  ·obtain ⟨m,hm⟩:∃ m,l.length-i=m+1:=⟨l.length-i-1,by omega⟩
   rw [hm] at hst ⊢
   simp [Builtin.clear_,run_underlying ht,zeroValue,typeInfo,hi,hz,Z54]
   simp at hst
   rw [hst]
   simp
  ·refine .inr ⟨by rw [Z39 hs],.inr ⟨g,c,_,by rw [List.length_take,Nat.min_eq_left hil],hb,setRow_heap w g cur _ e _ hg,by rw [List.length_take];omega,hcm,?_,?_⟩⟩
   ·simp only [List.size_toArray,List.length_append,List.length_take,List.length_drop,Array.length_toList]
    rw [Array.length_toList] at hfit
    omega
   ·have hle:i*size≤l.length*size:=Nat.mul_le_mul_right _ hil
    have hle3:i*size≤cur.size:=by rw [hcur];exact Nat.le_trans hle (Nat.mul_le_mul_right _ hlc)
    rw [List.length_take,Nat.min_eq_left hil,Nat.add_zero]
    simp only [List.append_assoc]
    rw [List.take_append,List.length_take,Array.length_toList,Nat.min_eq_left hle3,Nat.sub_self,List.take_zero,List.append_nil,List.take_of_length_le (by rw [List.length_take];omega),←Z8w hs,←htake,List.take_take,Nat.min_eq_left hle]
  ·refine ⟨rfl,rfl,rfl,by simp,fun k _ hk=>setRow_other w g k _ (fun e=>hk ?_)⟩
   have:0<c:=by omega
   cases c with
   | zero=>omega
   | succ c=>simp [wb,e]
theorem Z3V {ops:Array Oper} {rest:List Oper} {o:Oper} {a:Act} {Q:Exit→Act→World→Prop} (hgd:o.guard=none) (t:TypeId) (x y:Operand) (ho:o.op=.store t x y) (hdst:o.dst=none)
 (i0:TypeInfo) (hi:P.info? t=some i0) (hsz:i0.size=size) (hs:∀ a,(enc a).length=size) (h1:∀ a,∀ u∈enc a,u.oneCell'=true)
 {A:Option Addr} (h:Ow enc size e w base (.slice A n c) l) {i:Nat} (hil:i<l.length) (b:α) {cs:Array Value} (hcs:cs.toList=enc b) {p:Addr} (hp:A.map (·.add (i*size))=some p)
 (hx:a.eval x=.pointer (some p)) (hy:a.eval y=.agg cs)
 (hK:∀ w',Ow enc size e w' base (.slice A n c) (l.set i b)→w.grownBy w' (wb (.slice A n c))→wpList P ops Q rest a w'):wpList P ops Q (o::rest) a w:=
 wpList_plain hgd fun K hK'=>by
  obtain ⟨w',hr,h2,h3⟩:=Z9L (P:=P) t i0 hi hsz hs h1 h hil b hcs hp
  unfold Oper.wp execOp
  simp only [ho,hx,hy,hr,Sem.run_bind,Sem.run_pure,Result.andThen_ok]
  refine hK' _ _ ?_
  have:=hK w' h2 h3
  simpa [Act.put,hdst] using this
theorem Z1w {ops:Array Oper} {rest:List Oper} {o:Oper} {a:Act} {Q:Exit→Act→World→Prop} (hgd:o.guard=none) (x:Operand) (t:TypeId)
 (ho:o.op=.call { callee:=.builtin .clear,args:=#[x],argTypes:=#[t] }) (hdst:o.dst=none)
 (ht:P.underlying t=some (.slice e)) (i0:TypeInfo) (z:Value) (hi:P.info? e=some i0) (hz:i0.zero=some z) (hzs:z.cells.size=size) (hzo:∀ u∈z.cells.toList,u.oneCell'=true) (hs:∀ a,(enc a).length=size)
 {A X:Option Addr} (h:Ow enc size e w base (.slice A n c) l) {i k:Nat} (hil:i≤l.length) (hX:l.length-i=0∨X=A.map (·.add (i*size))) {m:Nat} (hm:m=l.length-i) (hx:a.eval x=.slice X m k)
 (hK:∀ w',Ow enc size e w' base (.slice A i c) (l.take i)→w.grownBy w' (wb (.slice A n c))→wpList P ops Q rest a w'):wpList P ops Q (o::rest) a w:=
 wpList_plain hgd fun K hK'=>by
  subst hm
  obtain ⟨w',hr,h2,h3⟩:=Z7G (P:=P) t o.type ht i0 z hi hz hzs hzo hs h (k:=k) hil hX
  unfold Oper.wp execOp
  simp only [ho,resolve,invoke,builtin,Sem.run_bind,Sem.run_pure,Result.andThen_ok,List.map_toArray,List.map_cons,List.map_nil,hx,hr]
  refine hK' _ _ ?_
  have:=hK w' h2 h3
  simpa [Act.put,hdst] using this
end
open Go.RowKit
set_option linter.unusedVariables false
set_option linter.unusedSimpArgs false
theorem Z55 (A:Option Addr) (n c:Nat) (l:List At) (w:World) (hn:n=l.length) (h:RdAt w w.heap.size A l) (hb:n≤100000000) :
 Calls Tryz.prog 125 #[.slice A n c] w (Y5a l w):=by
 cases A with
 | none=>
   have hl:l=[]:=by
    cases l with
    | nil=>rfl
    | cons a l=>obtain ⟨ad,e,_⟩:=h (by simp);cases e
   subst hl
   have hn0:n=0:=by simpa using hn
   subst hn0
   clear hn
   have hq:=fun (w:World)=>Lib.run_eql_slice_nil (P:=Tryz.prog) w 34 108 none 0 c 0 0 Tryz.slAt
   go_enter Tryz.func125,Tryz.ntmps125
   go_wp2_with (fail)
   go_ret
   exact ⟨none,0,rfl,Ow.nil _ _,Below.refl _ _⟩
 | some ad=>
   have N:=hid hn
   clear hn
   have hq:=fun (w:World)=>Lib.run_eql_slice_nil (P:=Tryz.prog) w 34 108 (some ad) n c 0 0 Tryz.slAt
   go_enter Tryz.func125,Tryz.ntmps125
   go_wp2_with (first
    | (at_builtin;refine Z5M (m:=l) rfl (.tmp 5) (.tmp 6) rfl rfl (by exact Ow.empty _ w.heap.size _) _ _ _ _ rfl N.out (by exact h.ext (Z0b w _)) (by have:=N.out;simp only [List.length_nil];omega) (by simp) ?_;intro v' w' hown' hgr hv'))
   rw [List.nil_append] at hown'
   obtain ⟨A',c',rfl,_,_⟩:=hown'.form
   go_ret
   exact ⟨A',c',rfl,hown',(Z0b w _).grown hgr (by simp) (fun k hk=>by cases hk)⟩
theorem Z56 (A:Option Addr) (n c:Nat) (l:List Ch) (w:World) (hn:n=l.length) (h:RdCh w w.heap.size A l) (hb:n≤100000000) :
 Calls Tryz.prog 145 #[.slice A n c] w (Y7a l w):=by
 cases A with
 | none=>
   have hl:l=[]:=by
    cases l with
    | nil=>rfl
    | cons a l=>obtain ⟨ad,e,_⟩:=h (by simp);cases e
   subst hl
   have hn0:n=0:=by simpa using hn
   subst hn0
   clear hn
   have hq:=fun (w:World)=>Lib.run_eql_slice_nil (P:=Tryz.prog) w 24 75 none 0 c 0 0 Tryz.slCh
   go_enter Tryz.func145,Tryz.ntmps145
   go_wp2_with (fail)
   go_ret
   exact ⟨none,0,rfl,Ow.nil _ _,Below.refl _ _⟩
 | some ad=>
   have N:=hid hn
   clear hn
   have hq:=fun (w:World)=>Lib.run_eql_slice_nil (P:=Tryz.prog) w 24 75 (some ad) n c 0 0 Tryz.slCh
   go_enter Tryz.func145,Tryz.ntmps145
   go_wp2_with (first
    | (at_builtin;refine Y6v (m:=l) rfl (.tmp 5) (.tmp 6) rfl rfl (by exact Ow.empty _ w.heap.size _) _ _ _ _ rfl N.out (by exact h.ext (Z0b w _)) (by have:=N.out;simp only [List.length_nil];omega) (by simp) ?_;intro v' w' hown' hgr hv'))
   rw [List.nil_append] at hown'
   obtain ⟨A',c',rfl,_,_⟩:=hown'.form
   go_ret
   exact ⟨A',c',rfl,hown',(Z0b w _).grown hgr (by simp) (fun k hk=>by cases hk)⟩
theorem OpS.enc_one (x:OpS):∀ u∈x.enc,u.oneCell'=true:=by intro u hu;simp [OpS.enc] at hu;rcases hu with rfl|rfl|rfl|rfl|rfl<;>rfl
abbrev OwOs:=@Ow OpS OpS.enc 5 36
theorem Tryz.infoOp:(Tryz.prog.info? 36).map (fun i=>(i.zero,i.size,i.bytes))=some (some (.agg #[.int .u8 0,.int .i64 0,.slice none 0 0,.slice none 0 0,.slice none 0 0]),5,88):=by kernel_rfl
theorem Tryz.slOp:Tryz.prog.underlying 37=some (.slice 36):=by kernel_rfl
abbrev OwCs:=@Ow ClS ClS.enc 2 41
theorem Tryz.infoCl:(Tryz.prog.info? 41).map (fun i=>(i.zero,i.size,i.bytes))=some (some (.agg #[.int .i32 0,.slice none 0 0]),2,32):=by kernel_rfl
theorem Tryz.slCl:Tryz.prog.underlying 23=some (.slice 41):=by kernel_rfl
section
variable {ops:Array Oper} {rest:List Oper} {o:Oper} {a:Act} {Q:Exit→Act→World→Prop} {w:World} {base:Nat} {v:Value} {K:Act→World→Prop} {E:Prop}
theorem Y0R {l m:List OpS} (hgd:o.guard=none) (s x:Operand)
 (ho:o.op=.call { callee:=.builtin .append,args:=#[s,x],argTypes:=#[37,37] })
 (hsv:a.eval s=v) (hown:OwOs w base v l) (B:Nat) (A:Option Addr) (c n:Nat) (hx:a.eval x=.slice A n c) (hn:n=m.length) (hr:RdOs w B A m)
 (hb:l.length+m.length≤1000000000000) (hbase:base≤w.heap.size)
 (h:∀ v' w',OwOs w' base v' (l++m)→w.grownBy w' (wb v)→(v'=v∧w'=w∨wb v'=wb v∨wb v'=some w.heap.size)→wpList Tryz.prog ops Q rest (a.put o.dst v') w'):wpList Tryz.prog ops Q (o::rest) a w:=by
 obtain ⟨i0,hi0,hz0,hz1,hz2⟩:=info_parts Tryz.infoOp
 exact Z1K hgd s x _ ho i0 _ 88 Tryz.slOp hi0 hz0 hz1 hz2 rfl (by omega) OpS.enc_len OpS.enc_one hsv hown B A c n hx hn hr (by simp only [maxLen];omega) (by omega) hbase h
theorem Z22 {l m:List OpS} (hgd:o.guard=none) (s x:Operand)
 (ho:o.op=.call { callee:=.builtin .append,args:=#[s,x],argTypes:=#[37,37] })
 (hsv:a.eval s=v) (hown:OwOs w base v l) (B:Nat) (A:Option Addr) (c n:Nat) (hx:a.eval x=.slice A n c) (hn:n=m.length) (hr:RdOs w B A m)
 (hb:l.length+m.length≤1000000000000) (hbase:base≤w.heap.size)
 (h:∀ v' w',OwOs w' base v' (l++m)→w.grownBy w' (wb v)→(v'=v∧w'=w∨wb v'=wb v∨wb v'=some w.heap.size)→K (a.put o.dst v') w') :
 if Region.wanted o (yielded ops a.tmps)=true then Oper.wp Tryz.prog o a w K Q else E:=by
 have hw:Region.wanted o (yielded ops a.tmps)=true:=by simp [Region.wanted,hgd]
 rw [if_pos hw]
 obtain ⟨i0,hi0,hz0,hz1,hz2⟩:=info_parts Tryz.infoOp
 exact Y0r s x _ ho i0 _ 88 Tryz.slOp hi0 hz0 hz1 hz2 rfl (by omega) OpS.enc_len OpS.enc_one hsv hown B A c n hx hn hr (by simp only [maxLen];omega) (by omega) hbase h
theorem Y5b {l m:List Int} (hgd:o.guard=none) (s x:Operand)
 (ho:o.op=.call { callee:=.builtin .append,args:=#[s,x],argTypes:=#[33,33] })
 (hsv:a.eval s=v) (hown:Z3k w base v l) (B:Nat) (A:Option Addr) (c n:Nat) (hx:a.eval x=.slice A n c) (hn:n=m.length) (hr:Z11 w B A m)
 (hb:l.length+m.length≤1000000000000) (hbase:base≤w.heap.size)
 (h:∀ v' w',Z3k w' base v' (l++m)→w.grownBy w' (wb v)→(v'=v∧w'=w∨wb v'=wb v∨wb v'=some w.heap.size)→K (a.put o.dst v') w') :
 if Region.wanted o (yielded ops a.tmps)=true then Oper.wp Tryz.prog o a w K Q else E:=by
 have hw:Region.wanted o (yielded ops a.tmps)=true:=by simp [Region.wanted,hgd]
 rw [if_pos hw]
 obtain ⟨i0,hi0,hz0,hz1,hz2⟩:=info_parts Tryz.infoI32
 exact Y0r s x _ ho i0 _ 4 Tryz.slI32 hi0 hz0 hz1 hz2 rfl (by omega) Z1d Z6Q hsv hown B A c n hx hn hr (by simp only [maxLen];omega) (by omega) hbase h
theorem Y6z {l m:List ClS} (hgd:o.guard=none) (s x:Operand)
 (ho:o.op=.call { callee:=.builtin .append,args:=#[s,x],argTypes:=#[23,23] })
 (hsv:a.eval s=v) (hown:OwCs w base v l) (B:Nat) (A:Option Addr) (c n:Nat) (hx:a.eval x=.slice A n c) (hn:n=m.length) (hr:RdCs w B A m)
 (hb:l.length+m.length≤2000000000000) (hbase:base≤w.heap.size)
 (h:∀ v' w',OwCs w' base v' (l++m)→w.grownBy w' (wb v)→(v'=v∧w'=w∨wb v'=wb v∨wb v'=some w.heap.size)→wpList Tryz.prog ops Q rest (a.put o.dst v') w'):wpList Tryz.prog ops Q (o::rest) a w:=by
 obtain ⟨i0,hi0,hz0,hz1,hz2⟩:=info_parts Tryz.infoCl
 exact Z1K hgd s x _ ho i0 _ 32 Tryz.slCl hi0 hz0 hz1 hz2 rfl (by omega) ClS.enc_len ClS.enc_one hsv hown B A c n hx hn hr (by simp only [maxLen];omega) (by omega) hbase h
end
def Y3e (r:List OpS) (w:World) (e:Ending) (w':World):Prop:=
 ∃ A c,e=.returned (.slice A r.length c)∧OwOs w' w.heap.size (.slice A r.length c) r∧Below w.heap.size w w'
def Y8i (r:List Int) (w:World) (e:Ending) (w':World):Prop:=
 ∃ A c,e=.returned (.slice A r.length c)∧Z3k w' w.heap.size (.slice A r.length c) r∧Below w.heap.size w w'
theorem Z57 (A:Option Addr) (n c:Nat) (l:List OpS) (w:World) (hn:n=l.length) (h:RdOs w w.heap.size A l) (hb:n≤100000000) :
 Calls Tryz.prog 226 #[.slice A n c] w (Y3e l w):=by
 cases A with
 | none=>
   have hl:l=[]:=by
    cases l with
    | nil=>rfl
    | cons a l=>obtain ⟨ad,e,_⟩:=h (by simp);cases e
   subst hl
   have hn0:n=0:=by simpa using hn
   subst hn0
   clear hn
   have hq:=fun (w:World)=>Lib.run_eql_slice_nil (P:=Tryz.prog) w 37 36 none 0 c 0 0 Tryz.slOp
   go_enter Tryz.func226,Tryz.ntmps226
   go_wp2_with (fail)
   go_ret
   exact ⟨none,0,rfl,Ow.nil _ _,Below.refl _ _⟩
 | some ad=>
   have N:=hid hn
   clear hn
   have hq:=fun (w:World)=>Lib.run_eql_slice_nil (P:=Tryz.prog) w 37 36 (some ad) n c 0 0 Tryz.slOp
   go_enter Tryz.func226,Tryz.ntmps226
   go_wp2_with (first
    | (at_builtin;refine Y0R (m:=l) rfl (.tmp 5) (.tmp 6) rfl rfl (by exact Ow.empty _ w.heap.size _) _ _ _ _ rfl N.out (by exact h.ext (Z0b w _)) (by have:=N.out;simp only [List.length_nil];omega) (by simp) ?_;intro v' w' hown' hgr hv'))
   rw [List.nil_append] at hown'
   obtain ⟨A',c',rfl,_,_⟩:=hown'.form
   go_ret
   exact ⟨A',c',rfl,hown',(Z0b w _).grown hgr (by simp) (fun k hk=>by cases hk)⟩
theorem Z3s (A:Option Addr) (n c:Nat) (l:List Int) (w:World) (hn:n=l.length) (h:Z11 w w.heap.size A l) (hb:n≤100000000) :
 Calls Tryz.prog 138 #[.slice A n c] w (Y8i l w):=by
 cases A with
 | none=>
   have hl:l=[]:=by
    cases l with
    | nil=>rfl
    | cons a l=>obtain ⟨ad,e,_⟩:=h (by simp);cases e
   subst hl
   have hn0:n=0:=by simpa using hn
   subst hn0
   clear hn
   have hq:=fun (w:World)=>Lib.run_eql_slice_nil (P:=Tryz.prog) w 33 21 none 0 c 0 0 Tryz.slI32
   go_enter Tryz.func138,Tryz.ntmps138
   go_wp2_with (fail)
   go_ret
   exact ⟨none,0,rfl,Ow.nil _ _,Below.refl _ _⟩
 | some ad=>
   have N:=hid hn
   clear hn
   have hq:=fun (w:World)=>Lib.run_eql_slice_nil (P:=Tryz.prog) w 33 21 (some ad) n c 0 0 Tryz.slI32
   go_enter Tryz.func138,Tryz.ntmps138
   go_wp2_with (first
    | (at_builtin;refine Z9w (m:=l) rfl (.tmp 5) (.tmp 6) rfl rfl (by exact Ow.empty _ w.heap.size _) _ _ _ _ rfl N.out (by exact h.ext (Z0b w _)) (by have:=N.out;simp only [List.length_nil];omega) (by simp) ?_;intro v' w' hown' hgr hv'))
   rw [List.nil_append] at hown'
   obtain ⟨A',c',rfl,_,_⟩:=hown'.form
   go_ret
   exact ⟨A',c',rfl,hown',(Z0b w _).grown hgr (by simp) (fun k hk=>by cases hk)⟩
def NewCs (r:List ClS) (w:World) (e:Ending) (w':World):Prop:=
 ∃ A c,e=.returned (.slice A r.length c)∧OwCs w' w.heap.size (.slice A r.length c) r∧Below w.heap.size w w'
theorem Z9M (A:Option Addr) (n c:Nat) (l:List ClS) (w:World) (hn:n=l.length) (h:RdCs w w.heap.size A l) (hb:n≤100000000) :
 Calls Tryz.prog 260 #[.slice A n c] w (NewCs l w):=by
 cases A with
 | none=>
   have hl:l=[]:=by
    cases l with
    | nil=>rfl
    | cons a l=>obtain ⟨ad,e,_⟩:=h (by simp);cases e
   subst hl
   have hn0:n=0:=by simpa using hn
   subst hn0
   clear hn
   have hq:=fun (w:World)=>Lib.run_eql_slice_nil (P:=Tryz.prog) w 23 41 none 0 c 0 0 Tryz.slCl
   go_enter Tryz.func260,Tryz.ntmps260
   go_wp2_with (fail)
   go_ret
   exact ⟨none,0,rfl,Ow.nil _ _,Below.refl _ _⟩
 | some ad=>
   have N:=hid hn
   clear hn
   have hq:=fun (w:World)=>Lib.run_eql_slice_nil (P:=Tryz.prog) w 23 41 (some ad) n c 0 0 Tryz.slCl
   go_enter Tryz.func260,Tryz.ntmps260
   go_wp2_with (first
    | (at_builtin;refine Y6z (m:=l) rfl (.tmp 5) (.tmp 6) rfl rfl (by exact Ow.empty _ w.heap.size _) _ _ _ _ rfl N.out (by exact h.ext (Z0b w _)) (by have:=N.out;simp only [List.length_nil];omega) (by simp) ?_;intro v' w' hown' hgr hv'))
   rw [List.nil_append] at hown'
   obtain ⟨A',c',rfl,_,_⟩:=hown'.form
   go_ret
   exact ⟨A',c',rfl,hown',(Z0b w _).grown hgr (by simp) (fun k hk=>by cases hk)⟩
set_option linter.unusedVariables false
set_option linter.unusedSimpArgs false
instance:DecidableEq Opd:=fun a b=>
 if h:a.k=b.k∧a.n=b.n∧a.r=b.r∧a.s=b.s∧a.p=b.p then isTrue (by cases a;cases b;simp only at h;obtain ⟨rfl,rfl,rfl,rfl,rfl⟩:=h;rfl)
 else isFalse (fun e=>h (by subst e;exact ⟨rfl,rfl,rfl,rfl,rfl⟩))
inductive Un where
 | ins (r:Int) (s:List At)
 | del
 | ret (p:List Ch)
deriving DecidableEq
def opI (r:List Int) (s:List At):Opd:=⟨2,0,r,s,[]⟩
def opD (n:Int):Opd:=⟨3,n,[],[],[]⟩
def opR (n:Int) (p:List Ch):Opd:=⟨1,n,[],[],p⟩
def op1:Un→Opd
 | .ins r s=>opI [r] s
 | .del=>opD 1
 | .ret p=>opR 1 p
def Z0o (a b:Opd):Bool:=
 (decide (a.k=2)&&decide (b.k=2)&&decide (a.s=b.s)) || (decide (a.k=3)&&decide (b.k=3)) || (decide (a.k=1)&&decide (b.k=1)&&decide (a.p=b.p))
def into (u:Un) (b:Opd):Opd:=
 match u with
 | .ins r s=>{ b with r:=r::b.r }
 | _=>{ b with n:=b.n+1 }
def Z3t (u:Un):List Opd→List Opd
 | []=>[op1 u]
 | b::t=>if Z0o (op1 u) b=true then into u b::t else op1 u::b::t
def enc:List Un→List Opd
 | []=>[]
 | u::us=>Z3t u (enc us)
def Z0l (o:Opd):List Un:=
 if o.k=2 then o.r.map (fun r=>Un.ins r o.s) else if o.k=1 then List.replicate o.n.toNat (.ret o.p) else List.replicate o.n.toNat .del
def Z0i (x:List Opd):List Un:=x.flatMap Z0l
theorem Z58:Z0i []=[]:=rfl
theorem Z1e (o:Opd) (x:List Opd):Z0i (o::x)=Z0l o++Z0i x:=rfl
theorem Z0M (x y:List Opd):Z0i (x++y)=Z0i x++Z0i y:=by simp [Z0i]
def isOp (o:Opd):Prop:=
 (o.k=2∧o.n=0∧o.r≠[]∧o.p=[])∨(o.k=3∧1≤o.n∧o.r=[]∧o.s=[]∧o.p=[])∨(o.k=1∧1≤o.n∧o.r=[]∧o.s=[])
def Z1q:List Opd→Prop
 | []=>True
 | a::x=>isOp a∧(match x with | []=>True|b::_=>Z0o a b=false)∧Z1q x
theorem Z59 {u:Un} {x:List Opd} (h:∀ b t,x=b::t→Z0o (op1 u) b=false):Z3t u x=op1 u::x:=by
 cases x with
 | nil=>rfl
 | cons b t=>rw [Z3t,if_neg (by rw [h b t rfl];simp)]
theorem Z7H {r:Int} {rs:List Int} {s:List At} {t:List Opd}:Z3t (.ins r s) (opI rs s::t)=opI (r::rs) s::t:=by
 rw [Z3t,if_pos (by simp [Z0o,op1,opI])];rfl
theorem Z7I {n:Int} {t:List Opd}:Z3t .del (opD n::t)=opD (n+1)::t:=by
 rw [Z3t,if_pos (by simp [Z0o,op1,opD])];rfl
theorem Z7J {n:Int} {p:List Ch} {t:List Opd}:Z3t (.ret p) (opR n p::t)=opR (n+1) p::t:=by
 rw [Z3t,if_pos (by simp [Z0o,op1,opR])];rfl
theorem Z10 {o:Opd} (h:isOp o) (hk:o.k=2):o=opI o.r o.s∧o.r≠[]:=by
 obtain ⟨k,n,r,s,p⟩:=o
 simp only at hk
 subst hk
 rcases h with ⟨_,h2,h3,h4⟩ | ⟨h1,_⟩ | ⟨h1,_⟩
 ·simp only at h2 h3 h4;subst h2 h4;exact ⟨rfl,h3⟩
 ·cases h1
 ·cases h1
theorem Z3e {o:Opd} (h:isOp o) (hk:o.k=3):o=opD o.n∧1≤o.n:=by
 obtain ⟨k,n,r,s,p⟩:=o
 simp only at hk
 subst hk
 rcases h with ⟨h1,_⟩ | ⟨_,h2,h3,h4,h5⟩ | ⟨h1,_⟩
 ·cases h1
 ·simp only at h2 h3 h4 h5;subst h3 h4 h5;exact ⟨rfl,h2⟩
 ·cases h1
theorem Z2t {o:Opd} (h:isOp o) (hk:o.k=1):o=opR o.n o.p∧1≤o.n:=by
 obtain ⟨k,n,r,s,p⟩:=o
 simp only at hk
 subst hk
 rcases h with ⟨h1,_⟩ | ⟨h1,_⟩ | ⟨_,h2,h3,h4⟩
 ·cases h1
 ·cases h1
 ·simp only at h2 h3 h4;subst h3 h4;exact ⟨rfl,h2⟩
theorem Z0H {o:Opd} (h:isOp o):o.k=2∨o.k=3∨o.k=1:=by
 rcases h with h|h|h
 ·exact .inl h.1
 ·exact .inr (.inl h.1)
 ·exact .inr (.inr h.1)
theorem Y8j {o:Opd} {us:List Un} (ho:isOp o) (hx:Z1q (enc us)) (h:∀ b t,enc us=b::t→Z0o o b=false):enc (Z0l o++us)=o::enc us:=by
 rcases Z0H ho with hk|hk|hk
 ·obtain ⟨e,hr⟩:=Z10 ho hk
  obtain ⟨k,n,r,s,p⟩:=o
  simp only at e hr hk
  rw [e] at h ⊢
  clear e ho hk
  have hu:Z0l (opI r s)=r.map (fun r=>Un.ins r s):=rfl
  rw [hu]
  induction r with
  | nil=>exact absurd rfl hr
  | cons a r ih=>
    cases r with
    | nil=>
      show Z3t (.ins a s) (enc us)=_
      exact Z59 (u:=.ins a s) (fun b t hb=>h b t hb)
    | cons b r=>
      have ih':=ih (fun c t hc=>h c t hc) (by simp) rfl
      show Z3t (.ins a s) (enc (((b::r).map (fun r=>Un.ins r s))++us))=_
      rw [ih',Z7H]
 ·obtain ⟨e,hn⟩:=Z3e ho hk
  obtain ⟨k,n,r,s,p⟩:=o
  simp only at e hn hk
  rw [e] at h ⊢
  clear e ho hk
  have hu:Z0l (opD n)=List.replicate n.toNat .del:=rfl
  rw [hu]
  obtain ⟨m,rfl⟩:∃ m:Nat,n=(m:Int)+1:=⟨(n-1).toNat,by omega⟩
  have hm:((m:Int)+1).toNat=m+1:=by omega
  rw [hm]
  clear hn hu hm
  induction m with
  | zero=>exact Z59 (u:=.del) (fun b t hb=>h b t hb)
  | succ m ih=>
    show Z3t .del (enc (List.replicate (m+1) .del++us))=_
    rw [ih (fun b t hb=>h b t hb),Z7I]
    congr 2
    all_goals omega
 ·obtain ⟨e,hn⟩:=Z2t ho hk
  obtain ⟨k,n,r,s,p⟩:=o
  simp only at e hn hk
  rw [e] at h ⊢
  clear e ho hk
  have hu:Z0l (opR n p)=List.replicate n.toNat (.ret p):=rfl
  rw [hu]
  obtain ⟨m,rfl⟩:∃ m:Nat,n=(m:Int)+1:=⟨(n-1).toNat,by omega⟩
  have hm:((m:Int)+1).toNat=m+1:=by omega
  rw [hm]
  clear hn hu hm
  induction m with
  | zero=>exact Z59 (u:=.ret p) (fun b t hb=>h b t hb)
  | succ m ih=>
    show Z3t (.ret p) (enc (List.replicate (m+1) (.ret p)++us))=_
    rw [ih (fun b t hb=>h b t hb),Z7J]
    congr 2
    all_goals omega
theorem Z8x {x:List Opd} (h:Z1q x):enc (Z0i x)=x:=by
 induction x with
 | nil=>rfl
 | cons a x ih=>
   obtain ⟨h1,h2,h3⟩:=h
   have e:=ih h3
   rw [Z1e,Y8j h1 (by rw [e];exact h3) (fun b t hb=>by rw [e] at hb;subst hb;exact h2),e]
theorem Y3f {x y:List Opd} (hx:Z1q x) (hy:Z1q y) (h:Z0i x=Z0i y):x=y:=by rw [←Z8x hx,h,Z8x hy]
end Go.Proofs.YtnmedachaeanbaaGreatDoor
