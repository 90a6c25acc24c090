/- Merged texts. -/
import Derived.Test.YtnmedachaeanbaaGreatDoorB12
import Derived.Shelf.SlSortCmp.NoneTotal
import Derived.RegionTactic
import Derived.BigRegion
import Derived.ChangeAlike
namespace Go.Proofs.YtnmedachaeanbaaGreatDoor
set_option maxRecDepth 100000
set_option maxHeartbeats 3200000
set_option linter.unusedVariables false
set_option linter.unusedSimpArgs false
section
variable {α:Type} (key:α→Int)
def lk (l:List α) (k:Int):Option α:=l.find? (fun a=>decide (key a=k))
def Srt (l:List α):Prop:=l.Pairwise (fun a b=>key a<key b)
theorem Y8n (k:Int):lk key [] k=none:=rfl
theorem Z7O (a:α) (l:List α) (k:Int):lk key (a::l) k=if key a=k then some a else lk key l k:=by
 unfold lk
 by_cases h:key a=k<;>simp [h]
theorem Z6i (l m:List α) (k:Int):lk key (l++m) k=(lk key l k).or (lk key m k):=by
 unfold lk
 rw [List.find?_append]
theorem Z3x {l:List α} {k:Int} (h:∀ a∈l,key a≠k):lk key l k=none:=by
 unfold lk
 rw [List.find?_eq_none]
 intro a ha
 simpa using h a ha
theorem Y8o {l:List α} {k:Int} {a:α} (h:lk key l k=some a):key a=k:=by
 unfold lk at h
 have:=List.find?_some h
 simpa using this
theorem Z64 {l:List α} {k:Int} {a:α} (h:lk key l k=some a):a∈l:=by
 unfold lk at h
 exact List.mem_of_find?_eq_some h
theorem Z6j {l:List α} (hs:Srt key l) {a:α} (h:a∈l):lk key l (key a)=some a:=by
 induction l with
 | nil=>simp at h
 | cons b l ih=>
   rw [Z7O]
   obtain ⟨h1,h2⟩:=List.pairwise_cons.1 hs
   rcases List.mem_cons.1 h with rfl|h
   ·simp
   ·have:=h1 a h
    rw [if_neg (by omega)]
    exact ih h2 h
theorem Srt.nil:Srt key ([]:List α):=List.Pairwise.nil
theorem Z4m {a:α} {l:List α}:Srt key (a::l)↔(∀ b∈l,key a<key b)∧Srt key l:=List.pairwise_cons
theorem Z65 {l m:List α}:Srt key (l++m)↔Srt key l∧Srt key m∧∀ a∈l,∀ b∈m,key a<key b:=List.pairwise_append
theorem Srt.filter {l:List α} (h:Srt key l) (p:α→Bool):Srt key (l.filter p):=List.Pairwise.filter p h
end
theorem Y0V {α:Type} (key:α→Int) (l:List α):rise (l.map key)=true↔Srt key l:=by
 induction l with
 | nil=>simp [rise,Srt]
 | cons a l ih=>
   rw [Z4m,←ih]
   constructor
   ·intro h
    refine ⟨fun b hb=>Y3i h _ (List.mem_map.2 ⟨b,hb,rfl⟩),Y3j h⟩
   ·rintro ⟨h1,h2⟩
    cases l with
    | nil=>rfl
    | cons b l=>
      simp only [List.map_cons,rise,Bool.and_eq_true,decide_eq_true_eq]
      exact ⟨h1 b (by simp),h2⟩
theorem Z2M {l:List At}:Z4b l=true↔Srt At.key l:=Y0V At.key l
theorem Z3y {l:List Ch}:Z3Y l=true↔Srt Ch.key l:=Y0V Ch.key l
theorem Y8p {α:Type} (key:α→Int) {l:List α} (hs:Srt key l) (c:Int) :
 (∀ a∈l.takeWhile (fun a=>decide (key a<c)),key a<c)∧(∀ a∈l.dropWhile (fun a=>decide (key a<c)),c≤key a):=by
 induction l with
 | nil=>simp
 | cons a l ih=>
   obtain ⟨h1,h2⟩:=(Z4m key).1 hs
   by_cases h:key a<c
   ·simp only [List.takeWhile_cons,List.dropWhile_cons,h,decide_true,if_true]
    refine ⟨fun b hb=>?_,(ih h2).2⟩
    rcases List.mem_cons.1 hb with rfl|hb
    ·exact h
    ·exact (ih h2).1 b hb
   ·simp only [List.takeWhile_cons,List.dropWhile_cons,h,decide_false,Bool.false_eq_true,if_false]
    refine ⟨fun b hb=>by simp at hb,fun b hb=>?_⟩
    rcases List.mem_cons.1 hb with rfl|hb
    ·omega
    ·have:=h1 b hb;omega
theorem Y8q {α:Type} (key:α→Int) {l:List α} (hs:Srt key l) (p:α→Bool):Srt key (l.takeWhile p):=hs.sublist (List.takeWhile_sublist p)
theorem Y8r {α:Type} (key:α→Int) {l:List α} (hs:Srt key l) (p:α→Bool):Srt key (l.dropWhile p):=hs.sublist (List.dropWhile_sublist p)
theorem Y5n {l:List At} (hs:Srt At.key l) {c:Int} (h:∀ a∈l,c≤a.key):Srt At.key (Z3g c l)∧(∀ a∈Z3g c l,c<a.key)∧∀ k,c<k→lk At.key (Z3g c l) k=lk At.key l k:=by
 cases l with
 | nil=>exact ⟨hs,by simp [Z3g],fun _ _=>rfl⟩
 | cons a l=>
   obtain ⟨h1,h2⟩:=(Z4m At.key).1 hs
   have hd:Z3g c (a::l)=if a.key=c then l else a::l:=rfl
   rw [hd]
   by_cases he:a.key=c
   ·rw [if_pos he]
    exact ⟨h2,fun b hb=>by have:=h1 b hb;omega,fun k hk=>by rw [Z7O,if_neg (by omega)]⟩
   ·rw [if_neg he]
    refine ⟨hs,fun b hb=>?_,fun _ _=>rfl⟩
    have ha:=h a (by simp)
    rcases List.mem_cons.1 hb with rfl|hb
    ·omega
    ·have:=h1 b hb;omega
def Z7P (c:Option Ch) (x:Option At):Option At:=
 match c with
 | some c=>if c.gone=true then none else some ⟨c.key,c.v⟩
 | none=>x
theorem Y5o {c:Ch} {a:At} (h:a∈put1 c):a.key=c.key:=by
 unfold put1 at h
 split at h
 ·simp at h
 ·simp at h;rw [h]
theorem Z6k {p:List Ch} (hp:Srt Ch.key p):∀ {s:List At},Srt At.key s →
 Srt At.key (Z1i p s)∧(∀ k,lk At.key (Z1i p s) k=Z7P (lk Ch.key p k) (lk At.key s k))∧(∀ m:Int,(∀ c∈p,m<c.key)→(∀ a∈s,m<a.key)→∀ a∈Z1i p s,m<a.key)∧(Z1i p s).length≤p.length+s.length:=by
 induction p with
 | nil=>intro s hs;exact ⟨hs,fun k=>rfl,fun m _ h a ha=>h a ha,by simp [Z1i]⟩
 | cons c p ih=>
   intro s hs
   obtain ⟨h1,h2⟩:=(Z4m Ch.key).1 hp
   obtain ⟨t1,t2⟩:=Y8p At.key hs c.key
   have hts:=Y8q At.key hs (fun a=>decide (a.key<c.key))
   have hds:=Y8r At.key hs (fun a=>decide (a.key<c.key))
   have e:Z1i (c::p) s=s.takeWhile (fun a=>decide (a.key<c.key))++(put1 c++Z1i p (Z3g c.key (s.dropWhile (fun a=>decide (a.key<c.key))))):=rfl
   have happ:s.takeWhile (fun a=>decide (a.key<c.key))++s.dropWhile (fun a=>decide (a.key<c.key))=s:=List.takeWhile_append_dropWhile
   have hlen:(s.takeWhile (fun a=>decide (a.key<c.key))).length+(s.dropWhile (fun a=>decide (a.key<c.key))).length=s.length:=by rw [←List.length_append,happ]
   have hlk:∀ k,lk At.key s k=(lk At.key (s.takeWhile (fun a=>decide (a.key<c.key))) k).or (lk At.key (s.dropWhile (fun a=>decide (a.key<c.key))) k):=fun k=>by rw [←Z6i,happ]
   have hmt:∀ a∈s.takeWhile (fun a=>decide (a.key<c.key)),a∈s:=fun a ha=>(List.takeWhile_sublist _).subset ha
   have hmd:∀ a∈s.dropWhile (fun a=>decide (a.key<c.key)),a∈s:=fun a ha=>(List.dropWhile_sublist _).subset ha
   generalize s.takeWhile (fun a=>decide (a.key<c.key))=tw at *
   generalize s.dropWhile (fun a=>decide (a.key<c.key))=dw at *
   obtain ⟨d1,d2,d3⟩:=Y5n hds t2
   have hdl:(Z3g c.key dw).length≤dw.length:=by
    unfold Z3g;split
    ·simp
    ·split<;>simp
   have hdm:∀ a∈Z3g c.key dw,a∈dw:=by
    unfold Z3g;split
    ·simp
    ·intro a ha;split at ha
     ·exact List.mem_cons_of_mem _ ha
     ·exact ha
   obtain ⟨i1,i2,i3,i4⟩:=ih h2 d1
   rw [e]
   have hput:∀ a∈put1 c,a.key=c.key:=fun a ha=>Y5o ha
   have hpl:(put1 c).length≤1:=by unfold put1;split<;>simp
   have hrest:∀ a∈Z1i p (Z3g c.key dw),c.key<a.key:=i3 c.key h1 d2
   refine ⟨?_,fun k=>?_,fun m hm1 hm2 a ha=>?_,?_⟩
   ·rw [Z65,Z65]
    refine ⟨hts,⟨?_,i1,fun a ha b hb=>?_⟩,fun a ha b hb=>?_⟩
    ·unfold put1;split
     ·exact Srt.nil _
     ·rw [Z4m];exact ⟨by simp,Srt.nil _⟩
    ·rw [hput a ha];exact hrest b hb
    ·have:=t1 a ha
     rcases List.mem_append.1 hb with hb|hb
     ·rw [hput b hb];exact this
     ·have:=hrest b hb;omega
   ·rw [Z6i,Z6i,hlk,Z7O]
    rcases Int.lt_trichotomy k c.key with hlt|rfl|hgt
    ·rw [if_neg (by omega),Z3x Ch.key (fun d hd=>by have:=h1 d hd;omega),Z3x At.key (l:=put1 c) (fun d hd=>by have:=hput d hd;omega),Z3x At.key (l:=Z1i p (Z3g c.key dw)) (fun d hd=>by have:=hrest d hd;omega),
      Z3x At.key (l:=dw) (fun d hd=>by have:=t2 d hd;omega)]
     rfl
    ·rw [if_pos rfl,Z3x At.key (l:=tw) (fun d hd=>by have:=t1 d hd;omega),Z3x At.key (l:=Z1i p (Z3g c.key dw)) (fun d hd=>by have:=hrest d hd;omega)]
     unfold put1 Z7P
     by_cases hg:c.gone=true
     ·simp [hg,Y8n]
     ·simp [hg,Z7O]
    ·rw [if_neg (by omega),Z3x At.key (l:=tw) (fun d hd=>by have:=t1 d hd;omega),Z3x At.key (l:=put1 c) (fun d hd=>by have:=hput d hd;omega),i2,d3 k hgt]
     rfl
   ·rcases List.mem_append.1 ha with ha|ha
    ·exact hm2 a (hmt a ha)
    ·rcases List.mem_append.1 ha with ha|ha
     ·rw [hput a ha];exact hm1 c (by simp)
     ·have:=hrest a ha;have:=hm1 c (by simp);omega
   ·simp only [List.length_append,List.length_cons];omega
section
variable {a b:List At} {p q r:List Ch}
end
def Z13 (l:List Ky) (b:Bool) (id:Int):Bool:=
 match Z0O l id with
 | none=>false
 | some k=>k.block==b
def Z5n (l:List Ky) (b:Bool) (p:List Ch):List Ch:=p.filter (fun c=>Z13 l b c.key)
open Go.RowKit
open Go.Lib (hid Utf8Tabs)
set_option linter.unusedVariables false
set_option linter.unusedSimpArgs false
theorem Y1X {l:List Ky} {m:Nat} {x:Ky} {id:Int} {R:Option Ky} (hd:l.drop m=x::l.drop (m+1)) (h:Z0O (l.drop m) id=R) (hx:x.id≠id):Z0O (l.drop (m+1)) id=R:=by
 rw [hd] at h
 rw [←h]
 simp [Z0O,hx]
theorem Y3p {l:List Ky} {m:Nat} {x:Ky} {id:Int} {R:Option Ky} (hd:l.drop m=x::l.drop (m+1)) (h:Z0O (l.drop m) id=R) (hx:x.id=id):R=some x:=by
 rw [hd] at h
 rw [←h]
 simp [Z0O,hx]
theorem Y3q {l:List Ky} {m:Nat} {id:Int} {R:Option Ky} (hm:l.length≤m) (h:Z0O (l.drop m) id=R):R=none:=by
 rw [List.drop_eq_nil_of_le hm] at h
 rw [←h]
 rfl
theorem Z8B (A:Option Addr) (n c:Nat) (l:List Ky) (id:Int) (w:World) (hn:n=l.length) (h:RdKy w w.heap.size A l) (hb:n≤140737488355328) :
 Calls Tryz.prog 33 #[.slice A n c,.int .i64 id] w (Z7A l id w):=by
 have N:=hid hn
 generalize hR:Z0O l id=R
 have HR:=hid hR
 clear hn hR
 unfold Z7A
 rw [HR.out]
 have y0:=Z0b w (.cells #[.int .i64 0,.bool false,.int .u8 0,.bool false,.bool false,.int .i64 0] 78)
 have HB:=hid (heap_alloc_new w (.cells #[.int .i64 0,.bool false,.int .u8 0,.bool false,.bool false,.int .i64 0] 78))
 go_enter Tryz.func33,Tryz.ntmps33
 go_wp2_with (fail)
 go_loopg [6] n (fun g iv wr => ∃ m:Nat,m≤n∧g=n-m∧iv=.int .i64 (m:Int)∧wr=w.alloc (.cells #[.int .i64 0,.bool false,.int .u8 0,.bool false,.bool false,.int .i64 0] 78)∧Hid (Z0O (l.drop m) id=R))
 case atStart=>exact ⟨0,by omega,rfl,rfl,rfl,hid (by rw [List.drop_zero];exact HR.out)⟩
 case round=>
  obtain ⟨m,hm,hg,rfl,rfl,HI⟩:=hrel
  have HG:=hid hg
  clear hg HR
  by_cases hlt:m<n
  ·have hl1:m<l.length:=by have:=N.out;omega
   obtain ⟨ad,x,rfl,had,hd1,_,hc0⟩:=h.el hl1
   have hc1:=hc0.keep (w':=w.alloc (.cells #[.int .i64 0,.bool false,.int .u8 0,.bool false,.bool false,.int .i64 0] 78)) (fun q hq=>World.cell?_alloc_lt w _ q (by rw [hq,Z0R];exact had))
   have HD:=hid hd1
   obtain ⟨x1,x2,x3,x4,x5,x6⟩:=x
   obtain ⟨r0,r1,r2,r3,r4,r5⟩:=Y0x hc1
   clear hc0 hc1 hd1
   have hw2:IntKind.i64.wrap ((m:Int)+1)=(m:Int)+1:=IntWalk.i64_in _ (by omega)
   obtain ⟨b0,b1,b2,b3,b4,b5⟩:=Z6S HB.out
   by_cases hle:x1=id
   ·subst hle
    go_wp2_with (fail)
    refine bodyPost_ret (v:=.tuple #[.agg #[.int .i64 x1,.bool x2,.int .u8 x3,.bool x4,.bool x5,.int .i64 x6],.bool true]) (by simp [results,Tryz.results33,go_sem]) rfl ?_
    have hr:=Y3p HD.out HI.out rfl
    exact ⟨x1,x2,x3,x4,x5,x6,true,rfl,by rw [hr];rfl,by rw [hr];rfl,by first|exact Z0b w _|trace_state⟩
   ·go_wp2_with (fail)
    go_roundg (n-(m+1))
    case measure=>have:=HG.out;omega
    case rel=>exact ⟨m+1,by omega,rfl,by go_num,rfl,hid (Y1X HD.out HI.out hle)⟩
  ·have HE:=hid (Y3q (m:=m) (by have:=N.out;omega) HI.out)
   go_wp2_with (fail)
   refine bodyPost_ret (v:=.tuple #[.agg #[.int .i64 0,.bool false,.int .u8 0,.bool false,.bool false,.int .i64 0],.bool false]) (by simp [results,Tryz.results33,go_sem]) rfl ?_
   exact ⟨0,false,0,false,false,0,false,rfl,by rw [HE.out];rfl,by rw [HE.out];rfl,by first|exact Z0b w _|trace_state⟩
theorem Y3r (A:Option Addr) (nn cc:Nat) (l:List Ky) (id k n f:Int) (t:ByteArray) (w:World) (hn:nn=l.length) (h:RdKy w w.heap.size A l) (hb:nn≤140737488355328) (h0:0≤f) (h1:f<18446744073709551616) (hsz:t.size≤100000000)
 (hT:Utf8Tabs 0 1 w) :
 Calls Tryz.prog 34 #[.slice A nn cc,.int .i64 id,.agg #[.int .u8 k,.int .i64 n,.int .u64 f,.string t]] w fun e w'=>e=.returned (.bool (Z2o l id ⟨k,n,f,t⟩))∧Below w.heap.size w w':=by
 obtain ⟨R,hR⟩:∃ X,Z2o l id ⟨k,n,f,t⟩=X:=⟨_,rfl⟩
 obtain ⟨m,hm⟩:∃ X,mayV ⟨k,n,f,t⟩=X:=⟨_,rfl⟩
 rw [hR]
 unfold Z2o at hR
 rw [hm] at hR
 have HR:=hid hR
 have HMV:=hid hm
 have HN:=hid hn
 have y0:=Z0b w (.cells #[.int .u8 k,.int .i64 n,.int .u64 f,.string t] 73)
 have hv0:=heap_alloc_new w (.cells #[.int .u8 k,.int .i64 n,.int .u64 f,.string t] 73)
 have hs0:=h.ext y0
 have hT0:=Utf8Tabs_below hT y0
 clear hR hm h hn
 go_enter Tryz.func34,Tryz.ntmps34
 go_wp2_with (go_at_call 33;refine Hid.out ?_)
 refine hid ?_
 have H0:=hid hv0
 clear hv0
 generalize hw0:w.alloc _=w0 at *
 clear hw0
 refine (Z8B A nn cc l id w0 HN.out hs0 hb).mono ?_
 rintro e w1 ⟨i,c,kd,d,g,q,b,rfl,hk,hb,y1⟩
 have hv1:=(y1.block w.heap.size (Z0c H0.out)).trans H0.out
 have y1':=Z0a y0 y1
 have y2:=Z0b w1 (.cells #[.int .i64 i,.bool c,.int .u8 kd,.bool d,.bool g,.int .i64 q] 78)
 have hk2:=heap_alloc_new w1 (.cells #[.int .i64 i,.bool c,.int .u8 kd,.bool d,.bool g,.int .i64 q] 78)
 have hv2:=(y2.block w.heap.size (Z0c hv1)).trans hv1
 have hT2:=Utf8Tabs_below hT0 (Z0a y1 y2)
 have yy:=Z0a y1' y2
 obtain ⟨a0,a1,a2,a3⟩:=Z1Y hv2
 have HV2:=hid hv2
 have HK2:=hid hk2
 have HB:=hid hb
 have HK:=hid hk
 clear hv1 hv2 hk2 H0 hb hk hT hT0 hs0
 cases b with
 | false=>
   go_wp2_with (fail)
   go_ret
   refine ⟨Z0e ?_,yy⟩
   have h:=HR.out
   have hb:=HB.out
   cases hq:Z0O l id with
   | none=>rw [hq] at h;exact h
   | some k=>rw [hq] at hb;simp at hb
 | true=>
   obtain ⟨K,hK⟩:∃ K,Z0O l id=some K:=Option.isSome_iff_exists.1 HB.out
   have hR:=HR.out
   have hk:=HK.out
   rw [hK] at hR hk
   simp only [Option.getD_some] at hk
   subst hk
   simp only at hR
   have HR:=hid hR
   clear hR
   go_wp2_with (go_at_call 32;refine Hid.out ?_)
   refine hid ?_
   refine (Z30 k n f t _ h0 h1 hsz hT2).mono ?_
   rintro e w3 ⟨rfl,y3⟩
   rw [HMV.out]
   have yy3:=Z2r yy y3 rfl rfl rfl rfl
   obtain ⟨hv3,hk3⟩:=kept2 HV2.out HK2.out y3 rfl
   obtain ⟨a0,a1,a2,a3⟩:=Z1Y hv3
   obtain ⟨k0,k1,k2,k3,k4,k5⟩:=Z6S hk3
   clear hv3 hk3 y3
   cases m with
   | false=>
     go_wp2_with (fail)
     go_ret
     refine ⟨Z0e ?_,yy3⟩
     rw [←HR.out];simp
   | true=>
     go_wp2_with (fail)
     go_ret
     refine ⟨Z0e ?_,yy3⟩
     rw [←HR.out,Bool.and_true]
     by_cases hq:kd=k
     ·subst hq;simp
     ·have hq':¬ k=kd:=fun e=>hq e.symm
      simp [hq,hq']
def Z8C (seen:List Ky):List Ky→Bool
 | []=>true
 | k::r=>mayK k&&(Z0O seen k.id).isNone&&Z8C (seen++[k]) r
def Z9T (l:List Ky):Bool:=decide (l.length≤64)&&Z8C [] l
open Go.RowKit Go.Shelf Go.Lib Go.Sort
def Tryz.sortKy_ren:Go.Shelf.Ren:=⟨fun|6=>45|15=>118|14=>117|28=>212|29=>213|20=>204|21=>205|22=>206|23=>207|24=>208|25=>209|26=>210|27=>211|46=>281|47=>282|48=>283|49=>284|50=>285|57=>340|n=>n,fun|22=>22|24=>78|25=>97|3=>3|39=>172|0=>0|53=>269|55=>71|4=>4|46=>262|45=>261|50=>266|5=>5|9=>9|66=>347|70=>351|76=>417|77=>418|n=>n,fun|n=>n⟩
theorem Tryz.sortKy:Go.Proofs.SlLaysF0.n6 Tryz.prog Tryz.sortKy_ren:={
 mixed:=by kernel_rfl
 f6:=⟨Tryz.f45.name,by decide,Tryz.func45.trans (congrArg some (by kernel_rfl))⟩
 f14:=⟨Tryz.f117.name,by decide,Tryz.func117.trans (congrArg some (by kernel_rfl))⟩
 f15:=Tryz.func118.trans (congrArg some (by kernel_rfl))
 f20:=⟨Tryz.f204.name,by decide,Tryz.func204.trans (congrArg some (by kernel_rfl))⟩
 f21:=⟨Tryz.f205.name,by decide,Tryz.func205.trans (congrArg some (by kernel_rfl))⟩
 f22:=⟨Tryz.f206.name,by decide,Tryz.func206.trans (congrArg some (by kernel_rfl))⟩
 f23:=⟨Tryz.f207.name,by decide,Tryz.func207.trans (congrArg some (by kernel_rfl))⟩
 f24:=⟨Tryz.f208.name,by decide,Tryz.func208.trans (congrArg some (by kernel_rfl))⟩
 f25:=⟨Tryz.f209.name,by decide,Tryz.func209.trans (congrArg some (by kernel_rfl))⟩
 f26:=⟨Tryz.f210.name,by decide,Tryz.func210.trans (congrArg some (by kernel_rfl))⟩
 f27:=⟨Tryz.f211.name,by decide,Tryz.func211.trans (congrArg some (by kernel_rfl))⟩
 f28:=Tryz.func212.trans (congrArg some (by kernel_rfl))
 f29:=Tryz.func213.trans (congrArg some (by kernel_rfl))
 f46:=⟨Tryz.f281.name,by decide,Tryz.func281.trans (congrArg some (by kernel_rfl))⟩
 f47:=Tryz.func282.trans (congrArg some (by kernel_rfl))
 f48:=Tryz.func283.trans (congrArg some (by kernel_rfl))
 f49:=⟨Tryz.f284.name,by decide,Tryz.func284.trans (congrArg some (by kernel_rfl))⟩
 f50:=⟨Tryz.f285.name,by decide,Tryz.func285.trans (congrArg some (by kernel_rfl))⟩
 f57:=⟨Tryz.f340.name,by decide,Tryz.func340.trans (congrArg some (by kernel_rfl))⟩
 t0:=Tryz.underlying0
 a0:=Tryz.isAgg0
 z0:=Tryz.sizeOf0
 v0:=Tryz.zeroValue0
 t3:=Tryz.underlying3
 a3:=Tryz.isAgg3
 z3:=Tryz.sizeOf3
 v3:=Tryz.zeroValue3
 t4:=Tryz.underlying4
 a4:=Tryz.isAgg4
 z4:=Tryz.sizeOf4
 v4:=Tryz.zeroValue4
 t5:=Tryz.underlying5
 a5:=Tryz.isAgg5
 z5:=Tryz.sizeOf5
 v5:=Tryz.zeroValue5
 t9:=Tryz.underlying9
 a9:=Tryz.isAgg9
 z9:=Tryz.sizeOf9
 v9:=Tryz.zeroValue9
 t22:=Tryz.underlying22
 a22:=Tryz.isAgg22
 z22:=Tryz.sizeOf22
 v22:=Tryz.zeroValue22
 t25:=Tryz.underlying97
 a25:=Tryz.isAgg97
 z25:=Tryz.sizeOf97
 v25:=Tryz.zeroValue97
 t39:=Tryz.underlying172
 a39:=Tryz.isAgg172
 z39:=Tryz.sizeOf172
 v39:=Tryz.zeroValue172
 t45:=Tryz.underlying261
 a45:=Tryz.isAgg261
 z45:=Tryz.sizeOf261
 v45:=Tryz.zeroValue261
 t46:=Tryz.underlying262
 a46:=Tryz.isAgg262
 z46:=Tryz.sizeOf262
 v46:=Tryz.zeroValue262
 t50:=Tryz.underlying266
 a50:=Tryz.isAgg266
 z50:=Tryz.sizeOf266
 v50:=Tryz.zeroValue266
 t53:=Tryz.underlying269
 a53:=Tryz.isAgg269
 z53:=Tryz.sizeOf269
 v53:=Tryz.zeroValue269
 t55:=Tryz.underlying71
 a55:=Tryz.isAgg71
 z55:=Tryz.sizeOf71
 v55:=Tryz.zeroValue71
 t66:=Tryz.underlying347
 a66:=Tryz.isAgg347
 z66:=Tryz.sizeOf347
 v66:=Tryz.zeroValue347
 t70:=Tryz.underlying351
 a70:=Tryz.isAgg351
 z70:=Tryz.sizeOf351
 v70:=Tryz.zeroValue351
 t76:=Tryz.underlying417
 a76:=Tryz.isAgg417
 z76:=Tryz.sizeOf417
 v76:=Tryz.zeroValue417
 t77:=Tryz.underlying418
 a77:=Tryz.isAgg418
 z77:=Tryz.sizeOf418
 v77:=Tryz.zeroValue418 }
def Z8D (x y:Ky):Int:=cmpI x.id y.id
theorem ltKy (x y:Ky):ltOf Z8D x y=decide (x.id<y.id):=by
 unfold ltOf Z8D cmpI
 by_cases h1:x.id<y.id
 ·simp [h1]
 ·by_cases h2:y.id<x.id<;>simp [h1,h2]
theorem swoKy:SWO (ltOf Z8D) where
 irrefl x:=by rw [ltKy];simp
 trans x y z h1 h2:=by rw [ltKy] at *;simp at *;omega
 ntrans x y z h1 h2:=by rw [ltKy] at *;simp at *;omega
instance:Inhabited Ky:=⟨Ky.zero⟩
theorem Y1Y (x y:Ky) (W:World):Calls Tryz.prog 46 #[.agg #[.int .i64 x.id,.bool x.block,.int .u8 x.kind,.bool x.after,.bool x.before,.int .i64 x.group],.agg #[.int .i64 y.id,.bool y.block,.int .u8 y.kind,.bool y.after,.bool y.before,.int .i64 y.group]] W
 fun e w'=>e=.returned (.int .i64 (Z8D x y))∧∃ q os',w'=grow (W.drewN q) os':=by
 unfold Z8D
 have hcon:=fun W'=>Z9N x.id y.id W'
 generalize cmpI x.id y.id=r at hcon ⊢
 go_enter Tryz.func46,Tryz.ntmps46
 go_wp2_with (go_at_call 47;refine (hcon _).mono ?_;rintro e w' ⟨rfl,rfl⟩)
 go_ret
 exact ⟨rfl,0,_,by rw [alloc_eq_grow,alloc_eq_grow,grow_grow];rfl⟩
theorem Y3s (blk off size:Nat) (w:World):CmpLays Tryz.prog 46 #[] Ky.enc 6 Z8D blk off size w:=
 fun _ _ _ _ x y=>Y1Y x y _
def Y3t (A:Option Addr) (n c:Nat) (l:List Ky) (w:World) (base:Nat) (e:Ending) (w':World):Prop:=
 e=.returned (.tuple #[])∧∃ l':List Ky,l'.Perm l∧l'.Pairwise (fun a b=>a.id≤b.id)∧RdKy w' w'.heap.size A l'∧Below base w w'∧∀ j,j<w.heap.size→(∀ k,wb (.slice A n c)=some k→k≠j)→w'.heap[j]? = w.heap[j]?
theorem Z8E (w:World) (blk off:Nat) (d:Array Ky) (j:Nat) (h:j≠blk):(putRowK Ky.enc 6 w blk off d).heap[j]? = w.heap[j]? := by
 simp only [putRowK,putRow,mapBlock]
 rw [Array.getElem?_modify,if_neg (fun e=>h e.symm)]
theorem Z3z (w:World) (blk off:Nat) (d:Array Ky):(putRowK Ky.enc 6 w blk off d).heap.size=w.heap.size:=by
 simp only [putRowK,putRow,mapBlock,Array.size_modify]
theorem Y7i {d d':Array Ky} (h:PermIn 0 d.size d d'):d'.toList.Perm d.toList:=by
 have h1:=h.1
 have h2:=h.2.2
 have e1:d'.extract 0 d.size=d':=by rw [←h1];simp
 have e2:d.extract 0 d.size=d:=by simp
 rw [e1,e2] at h2
 exact h2
theorem Y3u {d:Array Ky} {n:Nat} (hn:d.size=n) (h:SortedIn (ltOf Z8D) 0 n d):d.toList.Pairwise (fun a b=>a.id≤b.id):=by
 rw [List.pairwise_iff_getElem]
 intro i j hi hj hij
 have h2:=h i j (Nat.zero_le _) hij (by rw [←hn];simpa using hj)
 rw [ltKy] at h2
 have hi':i<d.size:=by simpa using hi
 have hj':j<d.size:=by simpa using hj
 rw [getElem!_pos d i hi',getElem!_pos d j hj'] at h2
 simp at h2
 simpa using h2
theorem Y1Z (A:Option Addr) (n c base:Nat) (l:List Ky) (w:World) (hown:OwKy w base (.slice A n c) l) (hb:n≤100000000) :
 Calls Tryz.prog 45 #[.slice A n c,.func (.func 46) #[] #[]] w (Y3t A n c l w base):=by
 have eg:∀ args w,(callFunc 46 args).run Tryz.prog w=.ok (.enter 46 args) w:=enters_of Tryz.func46 (by kernel_rfl) rfl
 have none_case:l=[]→n=0→Calls Tryz.prog 45 #[.slice A n c,.func (.func 46) #[] #[]] w (Y3t A n c l w base):=by
  intro h1 h2
  subst h1 h2
  have hcon:=AnyF.slices_SortFunc_none Tryz.sortKy A c (.func (.func 46) #[] #[]) w
  change Calls Tryz.prog 45 _ _ _ at hcon
  refine hcon.mono ?_
  rintro e w' ⟨rfl,rfl⟩
  exact ⟨rfl,[],List.Perm.refl _,List.Pairwise.nil,Rd.nil,Below.refl _ _,fun _ _ _=>rfl⟩
 rcases hown with ⟨h1,A',h2⟩ | ⟨hx,⟨h1,h2⟩ | ⟨g,cap,cur,h1,hg,hblk,hn1,hn2,hsz,htk⟩⟩
 ·injection h2 with _ h2 _
  exact none_case h1 h2
 ·injection h1 with _ h1 _
  exact none_case (List.eq_nil_of_length_eq_zero h2) h1
 ·injection h1 with hA hnl hc
  subst hA hnl hc
  by_cases hl0:l.length=0
  ·exact none_case (List.eq_nil_of_length_eq_zero hl0) hl0
  have hwb:∀ j,(∀ k,wb (.slice (some ⟨g,0,none⟩) l.length c)=some k→k≠j)→j≠g:=by
   intro j hk e
   cases c with
   | zero=>omega
   | succ c=>exact hk g rfl e.symm
  have hlt:g<w.heap.size:=(Array.getElem?_eq_some_iff.1 hblk).1
  have hcell:∀ j u,(l.flatMap Ky.enc)[j]? = some u→w.cell? ⟨g,j,none⟩=some u:=by
   intro j u hu
   rw [←htk] at hu
   have hj:=(List.getElem?_eq_some_iff.1 hu).1
   rw [List.getElem?_take_of_lt (by rw [List.length_take] at hj;omega)] at hu
   simp only [World.cell?,hblk]
   simpa using hu
  have hH:HoldsK Ky.enc 6 w g 0 l.toArray:=by
   intro j hj
   rw [size_flatK] at hj
   have hj':j<l.length*6:=by simpa using hj
   have hq:j / 6<l.length:=by omega
   refine ⟨?_,by simp [World.frozen?,hblk]⟩
   rw [get_flatK _ _ _ _ hj]
   simp only [id]
   have e1:l.toArray[j / 6]! = l[j / 6]:=by rw [getElem!_pos _ _ (by simpa using hq)];simp
   rw [e1,Nat.zero_add]
   have hm:j % 6<(Ky.enc l[j / 6]).length:=by rw [Ky.enc_len];omega
   rw [getElem!_pos (Ky.enc l[j / 6]) (j % 6) hm]
   have hf:=Z38 (size:=6) Ky.enc_len l (j / 6) (j % 6) _ hq (List.getElem?_eq_getElem hm)
   rw [Nat.div_add_mod'] at hf
   exact hcell j _ hf
  have hcon:=AnyQ.slices_SortFunc Tryz.sortKy 6 Tryz.isAgg78 Tryz.sizeOf78 Ky.enc Ky.enc_len Ky.enc_one Z8D swoKy 46 #[] g 0 c l.toArray w eg (Y3s g 0 _ w) hH hlt (by simp;omega)
  change Calls Tryz.prog 45 _ _ _ at hcon
  rw [List.size_toArray] at hcon
  refine hcon.mono ?_
  rintro e w' ⟨rfl,d',q,os,hp,hs,rfl⟩
  have hsize:d'.size=l.length:=by simpa using hp.1
  have hH':HoldsK Ky.enc 6 (sortWorldK Ky.enc 6 w g 0 q d' os) g 0 d':=
   holdsK_grow Ky.enc 6 _ os g 0 d' (by rw [Z3z];exact hlt) (holdsK_putRowK Ky.enc 6 (Sort.ahead w q) g 0 l.toArray d' hH (by simpa using hsize))
  have hheap:∀ j,j<w.heap.size→j≠g→(sortWorldK Ky.enc 6 w g 0 q d' os).heap[j]? = w.heap[j]? := by
   intro j hj hne
   unfold sortWorldK
   rw [heap_grow_old _ _ (by rw [Z3z];exact hj),Z8E _ _ _ _ _ hne]
   rfl
  have hsz2:w.heap.size≤(sortWorldK Ky.enc 6 w g 0 q d' os).heap.size:=by
   have:(sortWorldK Ky.enc 6 w g 0 q d' os).heap.size=(putRowK Ky.enc 6 (Sort.ahead w q) g 0 d').heap.size+os.size:=by simp [sortWorldK,grow]
   rw [this,Z3z]
   exact Nat.le_add_right _ _
  refine ⟨rfl,d'.toList,by simpa using Y7i (d:=l.toArray) (by simpa using hp),Y3u hsize hs,?_,⟨rfl,rfl,rfl,hsz2,fun j hj=>hheap j (by omega) (by omega)⟩,fun j hj hne=>hheap j hj (hwb j hne)⟩
  intro hl
  refine ⟨_,rfl,Nat.lt_of_lt_of_le hlt hsz2,fun i hi=>?_⟩
  intro j u hu
  have hi':i<d'.size:=by simpa using hi
  have hj6:j<6:=by have:=(List.getElem?_eq_some_iff.1 hu).1;rw [Ky.enc_len] at this;exact this
  have h3:=(HoldsK.cell hH' hi' hj6).1
  have e3:(Ky.enc d'[i]!)[j]! = u:=by
   rw [getElem!_pos d' i hi',getElem!_pos (Ky.enc d'[i]) j (by rw [Ky.enc_len];exact hj6)]
   have h4:=List.getElem?_eq_some_iff.1 hu
   obtain ⟨_,h4⟩:=h4
   simpa using h4
  rw [e3,Nat.zero_add] at h3
  rw [Z37]
  have ea:(⟨g,0,none⟩:Addr).add (i*6+j)=⟨g,i*6+j,none⟩:=by
   unfold Addr.add
   split
   ·rename_i h0;rw [h0]
   ·simp
  rw [ea]
  exact h3
theorem Z9U (A:Option Addr) (n c:Nat) (l:List Ky) (w:World) (hn:n=l.length) (h:RdKy w w.heap.size A l) (hb:n≤100000000) :
 Calls Tryz.prog 43 #[.slice A n c] w (NewKy l w):=by
 cases A with
 | none=>
   have hl:l=[]:=by
    cases l with
    | nil=>rfl
    | cons a l=>obtain ⟨ad,e,_⟩:=h (by simp);cases e
   subst hl
   have hn0:n=0:=by simpa using hn
   subst hn0
   clear hn
   have hq:=fun (w:World)=>Lib.run_eql_slice_nil (P:=Tryz.prog) w 22 78 none 0 c 0 0 Tryz.slKy
   go_enter Tryz.func43,Tryz.ntmps43
   go_wp2_with (fail)
   go_ret
   exact ⟨none,0,rfl,Ow.nil _ _,Below.refl _ _⟩
 | some ad=>
   have N:=hid hn
   clear hn
   have hq:=fun (w:World)=>Lib.run_eql_slice_nil (P:=Tryz.prog) w 22 78 (some ad) n c 0 0 Tryz.slKy
   go_enter Tryz.func43,Tryz.ntmps43
   go_wp2_with (first
    | (at_builtin;refine Y7Z (m:=l) rfl (.tmp 5) (.tmp 6) rfl rfl (by exact Ow.empty _ w.heap.size _) _ _ _ _ rfl N.out (by exact h.ext (Z0b w _)) (by have:=N.out;simp only [List.length_nil];omega) (by simp) ?_;intro v' w' hown' hgr hv'))
   rw [List.nil_append] at hown'
   obtain ⟨A',c',rfl,_,_⟩:=hown'.form
   go_ret
   exact ⟨A',c',rfl,hown',(Z0b w _).grown hgr (by simp) (fun k hk=>by cases hk)⟩
theorem MapK.drew {w:World} {b:Nat} {l:List Ky} (h:MapK w b l):MapK w.drew b l:=h
def Y6B (l:List Ky) (w:World) (e:Ending) (w':World):Prop:=
 Below w.heap.size w w'∧((Z9T l=true∧∃ s,e=.returned (.tuple #[.pointer (some ⟨s,0,none⟩),.int .i64 0])∧Sch w' s l)∨(Z9T l=false∧e=.returned (.tuple #[.pointer none,.int .i64 3])))
theorem Y7j (A:Option Addr) (n c:Nat) (l:List Ky) (w:World) (hn:n=l.length) (h:RdKy w w.heap.size A l) (hb:n≤140737488355328) :
 Calls Tryz.prog 9 #[.slice A n c] w (Y6B l w):=by
 have N:=hid hn
 generalize hR:Z9T l=R
 have HR:=hid hR
 clear hn hR
 unfold Y6B
 rw [HR.out]
 by_cases h64:(64:Int)<(n:Int)
 ·go_enter Tryz.func9,Tryz.ntmps9
  go_wp2_with (fail)
  have hf:R=false:=by
   rw [←HR.out]
   have:=N.out
   simp [Z9T];omega
  refine bodyPost_ret (v:=.tuple #[.pointer none,.int .i64 3]) (by simp [results,Tryz.results9,go_sem]) rfl ?_
  exact ⟨Below.refl _ _,.inr ⟨hf,rfl⟩⟩
 have HP:Hid (Z8C [] l=R):=hid (by rw [←HR.out];have:=N.out;simp [Z9T];intro h;omega)
 have hmm:=@run_makeMap Tryz.prog
 go_enter Tryz.func9,Tryz.ntmps9
 go_wp2_with (go_at_call 43;refine Hid.out ?_)
 refine hid ?_
 refine (Z9U A n c l w N.out h (by omega)).mono ?_
 rintro e w1 ⟨A',c',rfl,hown,y1⟩
 have HOW:=hid hown
 clear hown
 go_wp2_with (fail)
 go_loopg [19] n (fun g iv wr => ∃ m:Nat,m≤n∧g=n-m∧iv=.int .i64 (m:Int)∧Below w.heap.size w wr∧w1.heap.size+2≤wr.heap.size∧wr.heap[w1.heap.size+1]? = some (.cells #[.slice A' l.length c',.map (some w1.heap.size)] 93 (0,0))∧MapK wr w1.heap.size (l.take m)∧OwKy wr w.heap.size (.slice A' l.length c') l∧Hid (Z8C (l.take m) (l.drop m)=R))
 case atStart=>
  have ya:=Z0b w1 (.map #[] 0)
  have yb:=Z0b (w1.alloc (.map #[] 0)) (.cells #[.slice A' l.length c',.map (some w1.heap.size)] 93)
  have hm0:=heap_alloc_new w1 (.map #[] 0)
  have hb0:=heap_alloc_new (w1.alloc (.map #[] 0)) (.cells #[.slice A' l.length c',.map (some w1.heap.size)] 93)
  rw [World.size_alloc] at hb0
  refine ⟨0,by omega,rfl,rfl,Z0a y1 (Z0a ya yb),by simp,hb0,⟨#[],0,(yb.block _ (by simp)).trans hm0,by simp⟩,(HOW.out.alloc _).alloc _,hid (by rw [List.drop_zero,List.take_zero];exact HP.out)⟩
 case round=>
  obtain ⟨m,hm,hg,rfl,y,hs2,hbx,hmk,how,HI⟩:=hrel
  have HG:=hid hg
  clear hg HR HP
  by_cases hlt:m<n
  ·have hl1:m<l.length:=by have:=N.out;omega
   obtain ⟨ad,x,rfl,had,hd1,hx1,hc0⟩:=(h.below y (Nat.le_refl _)).el hl1
   obtain ⟨x1,x2,x3,x4,x5,x6⟩:=x
   obtain ⟨r0,r1,r2,r3,r4,r5⟩:=Y0x hc0
   have HI2:Hid ((mayK ⟨x1,x2,x3,x4,x5,x6⟩&&(Z0O (l.take m) x1).isNone&&Z8C (l.take (m+1)) (l.drop (m+1)))=R):=hid (by
    rw [←HI.out,hd1]
    simp only [Z8C]
    rw [List.take_add_one,hx1];rfl)
   have HX:=hid hx1
   have y2:=Z0b wr (.cells #[.int .i64 x1,.bool x2,.int .u8 x3,.bool x4,.bool x5,.int .i64 x6] 78)
   have hk2:=heap_alloc_new wr (.cells #[.int .i64 x1,.bool x2,.int .u8 x3,.bool x4,.bool x5,.int .i64 x6] 78)
   have hb2:=(y2.block _ (Z0c hbx)).trans hbx
   have hmk2:=hmk.ext y2
   have how2:=how.alloc (.cells #[.int .i64 x1,.bool x2,.int .u8 x3,.bool x4,.bool x5,.int .i64 x6] 78)
   obtain ⟨b0,b1⟩:=Y1D hb2
   obtain ⟨k0,k1,k2,k3,k4,k5⟩:=Z6S hk2
   have HMK:=hid hmk2
   have HB2:=hid hb2
   have HK2:=hid hk2
   have HOW2:=hid how2
   have y3:=Z0b (wr.alloc (.cells #[.int .i64 x1,.bool x2,.int .u8 x3,.bool x4,.bool x5,.int .i64 x6] 78)) (.cells #[.int .i64 0,.bool false,.int .u8 0,.bool false,.bool false,.int .i64 0] 78)
   have hb3:=(y3.block _ (Z0c hb2)).trans hb2
   have hk3:=(y3.block _ (Z0c hk2)).trans hk2
   have hmk3:=hmk2.ext y3
   obtain ⟨b0',b1'⟩:=Y1D hb3
   obtain ⟨k0',-⟩:=Z6S hk3
   have hl:=hmk2.drew.look x1
   have hl':=hmk3.drew.look x1
   have hz3:=heap_alloc_new (wr.alloc (.cells #[.int .i64 x1,.bool x2,.int .u8 x3,.bool x4,.bool x5,.int .i64 x6] 78)) (.cells #[.int .i64 0,.bool false,.int .u8 0,.bool false,.bool false,.int .i64 0] 78)
   clear hb3 hk3 hmk3
   generalize (Z0O (l.take m) x1).getD Ky.zero=F at hl hl'
   generalize hF2:(Z0O (l.take m) x1).isSome=G at hl hl'
   obtain ⟨z1,z2,z3,z4,z5,z6⟩:=F
   simp only [Ky.val] at hl hl'
   have HF2:=hid hF2
   clear hF2
   clear hc0 hd1 hx1 HI hmk hmk2 hbx hb2 hk2 how how2
   go_wp2_with (fail)
   go_big_region
   all_goals
    have y5:=Z0a y2 (Z0b (wr.alloc (.cells #[.int .i64 x1,.bool x2,.int .u8 x3,.bool x4,.bool x5,.int .i64 x6] 78)) (.cells #[.int .i64 z1,.bool z2,.int .u8 z3,.bool z4,.bool z5,.int .i64 z6] 78))
    have y5:Below wr.heap.size wr ((wr.alloc (.cells #[.int .i64 x1,.bool x2,.int .u8 x3,.bool x4,.bool x5,.int .i64 x6] 78)).alloc (.cells #[.int .i64 z1,.bool z2,.int .u8 z3,.bool z4,.bool z5,.int .i64 z6] 78)).drew:=y5.drew
    have y6:Below (wr.alloc (.cells #[.int .i64 x1,.bool x2,.int .u8 x3,.bool x4,.bool x5,.int .i64 x6] 78)).heap.size (wr.alloc (.cells #[.int .i64 x1,.bool x2,.int .u8 x3,.bool x4,.bool x5,.int .i64 x6] 78)) ((wr.alloc (.cells #[.int .i64 x1,.bool x2,.int .u8 x3,.bool x4,.bool x5,.int .i64 x6] 78)).alloc (.cells #[.int .i64 z1,.bool z2,.int .u8 z3,.bool z4,.bool z5,.int .i64 z6] 78)).drew:=(Z0b (wr.alloc (.cells #[.int .i64 x1,.bool x2,.int .u8 x3,.bool x4,.bool x5,.int .i64 x6] 78)) (.cells #[.int .i64 z1,.bool z2,.int .u8 z3,.bool z4,.bool z5,.int .i64 z6] 78)).drew
    generalize ((wr.alloc (.cells #[.int .i64 x1,.bool x2,.int .u8 x3,.bool x4,.bool x5,.int .i64 x6] 78)).alloc (.cells #[.int .i64 z1,.bool z2,.int .u8 z3,.bool z4,.bool z5,.int .i64 z6] 78)).drew=w5 at *
    have hb5:=(y6.block _ (Z0c HB2.out)).trans HB2.out
    have hk5:=(y6.block _ (Z0c HK2.out)).trans HK2.out
    have hmk5:=HMK.out.ext y6
    have how5:=HOW2.out.below y6 (Nat.le_refl _)
    obtain ⟨b0,b1⟩:=Y1D hb5
    obtain ⟨k0,k1,k2,k3,k4,k5⟩:=Z6S hk5
    cases G with
    | true=>
      go_wp2_with (fail)
      refine bodyPost_ret (v:=.tuple #[.pointer none,.int .i64 3]) (by simp [results,Tryz.results9,go_sem]) rfl ?_
      refine ⟨Z0a y y5,.inr ⟨?_,rfl⟩⟩
      have h2:=HF2.out
      rw [←HI2.out]
      cases hq:Z0O (l.take m) x1 with
      | none=>rw [hq] at h2;cases h2
      | some q=>simp
    | false=>
      have hnone:Z0O (l.take m) x1=none:=by
       have h2:=HF2.out
       cases hq:Z0O (l.take m) x1 with
       | none=>rfl
       | some q=>rw [hq] at h2;cases h2
      have HNO:=hid hnone
      have HB5:=hid hb5
      have HK5:=hid hk5
      have HM5:=hid hmk5
      have HO5:=hid how5
      clear hnone hb5 hk5 hmk5 how5
      go_wp2_with (go_at_call 44;refine Hid.out ?_)
      refine hid ?_
      refine (Y40 x1 x6 x3 x2 x4 x5 w5).mono ?_
      rintro e w6 ⟨rfl,y7⟩
      generalize hmay:mayK ⟨x1,x2,x3,x4,x5,x6⟩=M
      have HMA:=hid hmay
      clear hmay b0 b1 k0 k1 k2 k3 k4 k5
      have hb6:=(y7.block _ (Z0c HB5.out)).trans HB5.out
      have hk6:=(y7.block _ (Z0c HK5.out)).trans HK5.out
      have hmk6:=HM5.out.ext y7
      have how6:=HO5.out.below y7 (Nat.le_refl _)
      have HO6:=hid how6
      have HB6:=hid hb6
      obtain ⟨b0,b1⟩:=Y1D hb6
      obtain ⟨k0,k1,k2,k3,k4,k5⟩:=Z6S hk6
      cases M with
      | false=>
        go_wp2_with (fail)
        refine bodyPost_ret (v:=.tuple #[.pointer none,.int .i64 3]) (by simp [results,Tryz.results9,go_sem]) rfl ?_
        refine ⟨Z0a y (Z0a y5 y7),.inr ⟨?_,rfl⟩⟩
        rw [←HI2.out,HMA.out];simp
      | true=>
        obtain ⟨w7,hrun,hm7,hh7,hs7,ho7,ht7,hu7⟩:=hmk6.drew.store ⟨x1,x2,x3,x4,x5,x6⟩ HNO.out
        simp only [Ky.val] at hrun
        clear hb6 hk6 hmk6 how6
        go_wp2_with (fail)
        go_region
        have hw2:IntKind.i64.wrap ((m:Int)+1)=(m:Int)+1:=IntWalk.i64_in _ (by omega)
        go_wp2_with (fail)
        go_roundg (n-(m+1))
        case measure=>have:=HG.out;omega
        case rel=>
         have hws:=y1.size
         have hB:w.heap.size≤w6.drew.heap.size:=(Z0a y (Z0a y5 y7)).size
         have e67:Below w.heap.size w6.drew w7:=⟨ho7,ht7,hu7,by rw [hs7];exact Nat.le_refl _,fun k hk=>hh7 k (by omega)⟩
         have hsz6:w5.heap.size≤w6.heap.size:=y7.size
         have hsz5:wr.heap.size≤w5.heap.size:=y5.size
         refine ⟨m+1,by omega,rfl,by go_num,(Z0a y (Z0a y5 y7)).drew.trans e67,?_,(hh7 _ (by omega)).trans HB6.out,?_,?_,hid (by rw [←HI2.out,HMA.out,HNO.out];simp)⟩
         ·rw [hs7]
          show w1.heap.size+2≤w6.heap.size
          omega
         ·rw [List.take_add_one,HX.out]
          exact hm7
         ·refine HO6.out.drew.keep fun k hk=>hh7 k ?_
          have:=(HOW.out.wb_lt k hk).2
          omega
  ·have hmn:m=n:=by omega
   have hfull:l.take m=l:=List.take_of_length_le (by have:=N.out;omega)
   have hR:R=true:=by rw [←HI.out,List.drop_eq_nil_of_le (by have:=N.out;omega)];rfl
   have hRT:=hid hR
   have HF:=hid hfull
   obtain ⟨b0,b1⟩:=Y1D hbx
   have HB:=hid hbx
   have HM:=hid hmk
   have HO:=hid how
   clear hR hfull hbx hmk how
   go_wp2_with (go_at_call 45;refine Hid.out ?_)
   refine hid ?_
   refine (Y1Z A' l.length c' w.heap.size l wr HO.out (by have:=N.out;omega)).mono ?_
   rintro e w2 ⟨rfl,ls,hp,hs,hr,y2,hk⟩
   have hwb:∀ j,w1.heap.size≤j→j<wr.heap.size→w2.heap[j]? = wr.heap[j]? := fun j hj hj2=>hk j hj2 (fun k hk2=>by have:=(HOW.out.wb_lt k hk2).2;omega)
   have hb2:=(hwb (w1.heap.size+1) (by omega) (by omega)).trans HB.out
   have hm2:=HM.out
   rw [HF.out] at hm2
   have hm2:=hm2.keep (hwb w1.heap.size (by omega) (by omega))
   have HH:Hid (Sch w2 (w1.heap.size+1) l):=hid ⟨w1.heap.size,A',l.length,c',ls,hb2,hm2,hp.length_eq.symm,hp,hs,hr⟩
   have yy:=y.trans y2
   clear hp hs hr hk hwb hb2 hm2 b0 b1
   go_wp2_with (fail)
   refine bodyPost_ret (v:=.tuple #[.pointer (some ⟨w1.heap.size+1,0,none⟩),.int .i64 0]) (by simp [results,Tryz.results9,go_sem]) rfl ?_
   exact ⟨yy,.inl ⟨hRT.out,_,rfl,HH.out⟩⟩
end Go.Proofs.YtnmedachaeanbaaGreatDoor
