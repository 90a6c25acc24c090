/- Merged texts. -/
import Derived.Test.YtnmedachaeanbaaGreatDoorB38
set_option linter.unusedVariables false
set_option linter.unusedSimpArgs false
namespace Go.Sy
variable {P:Program} {e e':Env} {w w':World} {hp hp':Tr Blk} {nx nx' lo hi:Nat}
variable {fx:Fx} {tm:Tr AV} {defs:List Nat} {k:List AI} {cs:List AF} {fr:Frame} {frs:List Frame}
theorem Y6p {ev ev':Operand→Option AV} {o:Oper} (h:∀ x∈o.op.operands,ev x=ev' x):ef P hp nx ev o.op=ef P hp nx ev' o.op:=by
 obtain ⟨dst,op,ty,pos,aft,gd⟩:=o
 cases op<;>try rfl
 case store t a x=>
  show efStore hp nx (ev a) (ev x) _=efStore hp nx (ev' a) (ev' x) _
  rw [h a (by simp [Op.operands]),h x (by simp [Op.operands])]
 case convert s d x=>
  show efConvert P hp nx _ (ev x) _ _=efConvert P hp nx _ (ev' x) _ _
  rw [h x (by simp [Op.operands])]
 case mapUpdate t m kk x=>
  show efMapUpdate P hp nx (ev m) _ (ev kk) (ev x)=efMapUpdate P hp nx (ev' m) _ (ev' kk) (ev' x)
  rw [h m (by simp [Op.operands]),h kk (by simp [Op.operands]),h x (by simp [Op.operands])]
 case next it b=>
  show efNext hp nx b (ev it)=efNext hp nx b (ev' it)
  rw [h it (by simp [Op.operands])]
 case call c=>
  obtain ⟨callee,args,ts⟩:=c
  have ha:∀ x∈args,ev x=ev' x:=fun x hx=>h x (by simp [Op.operands,Call.operands,hx])
  cases callee with
  | value f=>
    show callA P (ev f) (evL ev args.toList)=callA P (ev' f) (evL ev' args.toList)
    rw [h f (by simp [Op.operands,Call.operands]),Z6E fun x hx=>ha x (by simpa using hx)]
  | invoke r m=>rfl
  | builtin b=>
    show efBuiltin P hp nx ev args ts b=efBuiltin P hp nx ev' args ts b
    unfold efBuiltin
    have h0:=Z3c (i:=0) ha
    have h1:=Z3c (i:=1) ha
    split<;>first|rfl|(simp only [h0,h1])
theorem Y4G {ev:Operand→Option AV} {ρ:Operand→Value} {o:Oper} (hev:∀ x a,ev x=some a→VR e a (ρ x)) (hS:SR P e hp nx w):DoesO P e hp nx w (execOp ρ o) (efOr P hp nx ev o):=by
 intro r h
 unfold efOr at h
 split at h
 ·rename_i x hx
  simp at h;subst h
  exact Y1s hev hS o x hx
 ·split at h
  ·rename_i v hv
   simp at h;subst h
   exact Y4t hev hS o hv
  ·cases h
theorem Y2F {ev ev':Operand→Option AV} {o:Oper} (h:∀ x∈o.op.operands,ev x=ev' x):efOr P hp nx ev o=efOr P hp nx ev' o:=by
 unfold efOr
 rw [Y6p h,Z5I h]
theorem Z6P {ev:Operand→Option AV} {o:Oper} {x:Ef} (h:efOr P hp nx ev o=some x):∀ c,o.op ≠ .defer c:=by
 unfold efOr at h
 split at h
 ·rename_i hx;exact Z5l hx
 ·split at h
  ·rename_i hv;exact Z3F hv
  ·cases h
/-! ### Which one is next -/
def PS (P:Program) (ops:Array Oper) (H:Nat→Option Blk) (tm:Tr AV) (done id:Nat) (l:List (Nat×Oper×Nat)) (p:Pick):Pick→Prop
 | .fl i o m v b=>(i,o,m)∈l∧(∀ j,m.testBit j=true→done.testBit j=true) ∧
  ((wantedA ops tm o=some false∧v=.tup []∧b=none)∨(wantedA ops tm o=some true∧quietB (evA tm) o=true∧fl P H (evA tm) o id o.op=some (v,b)))
 | .ef i o m=>(p=.ef i o m∧∀ x∈l,¬ ∀ j,x.2.2.testBit j=true→done.testBit j=true) ∨
  (p=.over∧(i,o,m)∈l∧(∀ j,m.testBit j=true→done.testBit j=true)∧wantedA ops tm o=some true∧∀ x∈l,(∀ j,x.2.2.testBit j=true→done.testBit j=true)→x.1=i)
 | .over=>p=.over
 | .lost=>True
theorem Z6I {ops:Array Oper} {H:Nat→Option Blk} {done id:Nat}:∀ (l:List (Nat×Oper×Nat)) (p:Pick),(p=.over∨∃ i o m,p=.ef i o m)→PS P ops H tm done id l p (pickA P ops H tm done id l p)
 | [],p,hp=>by
   simp only [pickA]
   rcases hp with rfl | ⟨i,o,m,rfl⟩
   ·exact rfl
   ·exact .inl ⟨rfl,by simp⟩
 | (i,o,m)::r,p,hp=>by
   unfold pickA
   split
   ·rename_i hb
    have hnot:¬ ∀ j,m.testBit j=true→done.testBit j=true:=fun h0=>by rw [Y1y.2 h0] at hb;cases hb
    have ih:=Z6I (ops:=ops) (H:=H) (done:=done) (id:=id) r p hp
    generalize pickA P ops H tm done id r p=q at ih ⊢
    cases q with
    | fl=>exact ⟨List.mem_cons_of_mem _ ih.1,ih.2⟩
    | ef=>
      rcases ih with ⟨h1,h2⟩ | ⟨h1,h2,h3,h4,h5⟩
      ·refine .inl ⟨h1,fun x hx=>?_⟩
       rcases List.mem_cons.1 hx with rfl|hx
       ·exact hnot
       ·exact h2 x hx
      ·refine .inr ⟨h1,List.mem_cons_of_mem _ h2,h3,h4,fun x hx hm=>?_⟩
       rcases List.mem_cons.1 hx with rfl|hx
       ·exact absurd hm hnot
       ·exact h5 x hx hm
    | over=>exact ih
    | lost=>trivial
   ·rename_i hb
    have hsub:=Y1y.1 hb
    split
    ·trivial
    ·rename_i hw
     exact ⟨List.mem_cons_self ..,hsub,.inl ⟨hw,rfl,rfl⟩⟩
    ·rename_i hw
     split
     ·rename_i v b hq
      split at hq
      ·rename_i hqq
       exact ⟨List.mem_cons_self ..,hsub,.inr ⟨hw,hqq,hq⟩⟩
      ·cases hq
     ·split
      ·have ih:=Z6I (ops:=ops) (H:=H) (done:=done) (id:=id) r (.ef i o m) (.inr ⟨i,o,m,rfl⟩)
       generalize pickA P ops H tm done id r (.ef i o m)=q at ih ⊢
       cases q with
       | fl=>exact ⟨List.mem_cons_of_mem _ ih.1,ih.2⟩
       | ef=>
         rcases ih with ⟨h1,h2⟩ | ⟨h1,_⟩
         ·injection h1 with e1 e2 e3
          subst e1;subst e2;subst e3
          refine .inr ⟨rfl,List.mem_cons_self ..,hsub,hw,fun x hx hm=>?_⟩
          rcases List.mem_cons.1 hx with rfl|hx
          ·rfl
          ·exact absurd hm (h2 x hx)
         ·cases h1
       | over=>cases ih
       | lost=>trivial
      ·trivial
section
variable {ops:Array Oper} {d:Dr} {l:List Nat} {tmps:Array Value} {lm:List (Nat×Oper×Nat)} {g0:Nat→Option AV} {A:Nat→Option Nat} {S:List (Nat×AV)} {D:Nat→Bool} {nt:Nat} {live:Bool}
theorem DR.sees0 (h:DR P e hp lo hi live nt tm ops d l tmps lm g0 A S D) {i m:Nat} {o:Oper} (hli:lm[i]? = some (i,o,m)) (hS:i ∉ S.map (·.1)) (hm:∀ j,m.testBit j=true→D j=true) {t:Nat} (hr:Rel ops i o t) :
 look ops g0 (only D S) t=look ops g0 S t:=by
 apply Z4x
 intro x hx hd
 obtain ⟨ox,mx,hlx⟩:=h.lm_at hx
 have hne:x.1≠i:=fun h0=>hS (h0 ▸ List.mem_map_of_mem hx)
 rcases Z3d h.ms h.ap hli hlx hne hr hd with h1|h1
 ·exact hm _ h1
 ·exfalso
  obtain ⟨p1,p2,rfl⟩:=List.append_of_mem hx
  obtain ⟨xi,xv⟩:=x
  obtain ⟨o2,m2,hl2,hm2⟩:=h.ord p1 xi xv p2 rfl
  rw [hlx] at hl2;simp at hl2;obtain ⟨rfl,rfl⟩:=hl2
  have:=hm2 _ h1
  exact hS (by simp at this ⊢;obtain ⟨a,ha⟩:=this;exact .inr (.inr ⟨a,ha⟩))
theorem Y0q {H:Nat→Option Blk} {t:TypeId} {a:Operand} {o:Oper} {sn:List (Nat×Nat×List AV)} {v:AV} {b:Option Blk} {id:Nat} (ho:o.op=.load t a) (hs:seenOf H P tm o=some sn) (hf:fl P H (evA tm) o id o.op=some (v,b)) :
 ∃ bb off cells,evA tm a=some (.ptr bb off)∧sn=[(bb,off,cells)]∧loadC H bb off cells.length=some cells∧b=none ∧
   ((isAggT P t=some true∧szT P t=some cells.length∧v=.agg cells)∨(isAggT P t=some false∧cells=[v])):=by
 rw [ho] at hf
 have hf:flLoad P H t (evA tm a)=some (v,b):=hf
 unfold seenOf at hs
 rw [ho] at hs
 dsimp only at hs
 split at hs
 ·rename_i bb off ha
  rw [ha] at hf
  have hf:vOnly (loadV P H t bb off)=some (v,b):=hf
  cases hlv:loadV P H t bb off with
  | none=>rw [hlv] at hf;cases hf
  | some u=>
    rw [hlv] at hf
    simp [vOnly] at hf
    obtain ⟨rfl,rfl⟩:=hf
    split at hs
    ·rename_i n hn
     split at hs
     ·rename_i cells hc
      simp at hs;subst hs
      have hlen:cells.length=n:=by
       unfold loadC at hc
       split at hc
       ·obtain ⟨h1,h2⟩:=Z2U _ _ _ hc
        rw [h2,List.length_take];omega
       ·cases hc
      refine ⟨bb,off,cells,ha,rfl,by rw [hlen];exact hc,rfl,?_⟩
      unfold loadV at hlv
      split at hn
      ·rename_i hg
       rw [hg,hn] at hlv
       simp only [hc] at hlv
       simp at hlv
       exact .inl ⟨hg,by rw [hlen];exact hn,hlv.symm⟩
      ·rename_i hg
       simp at hn;subst hn
       rw [hg] at hlv
       simp only [hc] at hlv
       split at hlv
       ·rename_i x heq
        simp at hlv heq;subst hlv;subst heq
        exact .inr ⟨hg,rfl⟩
       ·cases hlv
      ·cases hn
     ·cases hs
    ·cases hs
 ·cases hs
theorem DR.reckon {fx:Fx} {tm tm':Tr AV} {i m:Nat} {o:Oper} {v:AV} {b:Option Blk} {sn:List (Nat×Nat×List AV)} (h:DR P e hp lo nx true fx.nt tm ops d l tmps lm g0 A S D) (hSR:SR P e hp nx w) (hlo:lo≤nx)
 (hin:(i,o,m)∈d.todo) (hmask:∀ j,m.testBit j=true→d.done.testBit j=true)
 (hv:(wantedA ops tm o=some false∧v=.tup []∧b=none)∨(wantedA ops tm o=some true∧quietB (evA tm) o=true∧fl P hp.get (evA tm) o nx o.op=some (v,b)))
 (htm:putT fx tm o.dst v=some tm') (hsn:seenIf hp.get P tm o (wantedA ops tm o)=some sn) :
 DR P e (match b with|some bk=>hp.put nx bk|none=>hp) lo (match b with|some _=>nx+1|none=>nx) true fx.nt tm' ops ⟨d.todo.filter (fun x => !(Nat.beq x.1 i)),d.done|||2 ^ i,sn.map (fun x=>(i,x))++d.seen,none⟩ l tmps lm g0
  (match b with|some _=>fun j=>if j=i then some nx else A j|none=>A) ((i,v)::S) D:=by
 obtain ⟨hlm,hnS⟩:=(h.todo _).1 hin
 obtain ⟨n,hn,hx⟩:=List.getElem_of_mem hlm
 have hli:lm[n]? = some (i,o,m):=by rw [List.getElem?_eq_getElem hn,hx]
 obtain ⟨rfl,ho⟩:=h.ms.at_ _ _ _ _ hli
 have hdst:Z2Y ops i=o.dst:=by simp [Z2Y,ho]
 have hDi:D i=false:=by
  cases hd:D i with
  | false=>rfl
  | true=>exact absurd (h.sub i hd) hnS
 have hg:tm.get=look ops g0 S:=funext h.tms
 have hdoneb:∀ j,(d.done|||2 ^ i).testBit j=true↔j=i∨d.done.testBit j=true:=fun j=>by
  rw [Nat.testBit_or,Nat.testBit_two_pow]
  simp only [Bool.or_eq_true,decide_eq_true_eq]
  constructor
  ·rintro (h0|h0)
   ·exact .inr h0
   ·exact .inl h0.symm
  ·rintro (h0|h0)
   ·exact .inr h0.symm
   ·exact .inl h0
 have honly:only D ((i,v)::S)=only D S:=by
  unfold only;rw [List.filter_cons,if_neg (by simp [hDi])]
 refine ⟨h.ms,h.ap,h.sched,?_,?_,?_,?_,?_,h.down,?_,h.size,?_,?_,?_,?_,?_⟩
 ·rw [List.map_cons];exact List.nodup_cons.2 ⟨hnS,h.nod⟩
 ·intro pre j u post hS2
  cases pre with
  | nil=>
    simp at hS2
    obtain ⟨⟨rfl,rfl⟩,rfl⟩:=hS2
    exact ⟨o,m,hli,fun j hj=>(h.done j).1 (hmask j hj)⟩
  | cons x pre=>
    simp at hS2
    exact h.ord pre j u post hS2.2
 ·intro j
  dsimp only
  rw [hdoneb,List.map_cons,List.mem_cons,h.done]
 ·intro x
  dsimp only
  rw [List.mem_filter,h.todo]
  constructor
  ·rintro ⟨⟨h1,h2⟩,h3⟩
   refine ⟨h1,?_⟩
   rw [List.map_cons,List.mem_cons]
   rintro (h4|h4)
   ·rw [h4] at h3;simp at h3
   ·exact h2 h4
  ·rintro ⟨h1,h2⟩
   rw [List.map_cons,List.mem_cons] at h2
   refine ⟨⟨h1,fun h3=>h2 (.inr h3)⟩,?_⟩
   cases hb:Nat.beq x.1 i with
   | false=>rfl
   | true=>exact absurd (.inl (Nat.eq_of_beq_eq_true hb)) h2
 ·intro j hj
  rw [List.map_cons,List.mem_cons];exact .inr (h.sub j hj)
 ·intro t
  simp only [look]
  rw [hdst,←h.tms t]
  rcases Z2X htm with ⟨h1,rfl⟩ | ⟨dd,h1,_,rfl⟩
  ·rw [h1,if_neg (by simp)]
  ·rw [h1,Tr.get_put]
   by_cases h2:dd=t
   ·subst h2;simp
   ·rw [if_neg h2,if_neg (by simpa using h2)]
 ·rw [honly];exact h.gr
 ·intro x hx t hdt
  rcases List.mem_cons.1 hx with rfl|hx
  ·rcases Z2X htm with ⟨h1,rfl⟩ | ⟨dd,h1,hlt,rfl⟩
   ·dsimp only at hdt;rw [hdst,h1] at hdt;cases hdt
   ·dsimp only at hdt;rw [hdst,h1] at hdt;cases hdt;exact hlt
  ·exact h.dst x hx t hdt
 ·cases b with
  | none=>exact h.ainj
  | some bk=>
    intro a c id ha hc
    dsimp only at ha hc
    split at ha<;>split at hc
    ·rename_i h1 h2;rw [h1,h2]
    ·cases ha;exact absurd (h.alt c nx hc) (Nat.lt_irrefl _)
    ·cases hc;exact absurd (h.alt a nx ha) (Nat.lt_irrefl _)
    ·exact h.ainj a c id ha hc
 ·cases b with
  | none=>exact h.alt
  | some bk=>
    intro a id ha
    dsimp only at ha ⊢
    split at ha
    ·cases ha;exact Nat.lt_succ_self _
    ·exact Nat.lt_succ_of_lt (h.alt a id ha)
 ·intro pre j u post hS2 hDj oj hoj
  have hfr:=hSR.fresh nx (Nat.le_refl _)
  cases pre with
  | nil=>
    simp at hS2
    obtain ⟨⟨rfl,rfl⟩,rfl⟩:=hS2
    rw [ho] at hoj;cases hoj
    rcases hv with ⟨hw,rfl,rfl⟩ | ⟨hw,hq,hf⟩
    ·exact .skip (by rw [Z43,hg] at hw;exact hw)
    ·rw [Z43,hg] at hw
     by_cases hl:∃ t a,o.op=.load t a
     ·obtain ⟨t,a,hl⟩:=hl
      rw [Z43,hg,hw] at hsn
      obtain ⟨bb,off,cells,h1,h2,h3,rfl,h5⟩:=Y0q hl hsn hf
      rw [Z7n,hg] at h1
      exact .load hl hw h1 h5 (by rw [h2];simp) (fun _=>h3)
     ·have hl':∀ t a,o.op ≠ .load t a:=fun t a h0=>hl ⟨t,a,h0⟩
      have hall:∀ H,fl P H (evF (look ops g0 S)) o nx o.op=some (v,b):=fun H=>by
       rw [←hg,←Z7n,fl_H (H':=hp.get) hq hl'];exact hf
      cases b with
      | none=>exact .op hw hall
      | some bk=>exact .new hw hall (by simp) (by dsimp only;rw [Tr.get_put,if_pos rfl]) hfr.1 hfr.2.1 hlo (Nat.lt_succ_self _)
  | cons x pre=>
    simp at hS2
    have hne:j≠i:=fun h0=>hnS (by rw [hS2.2,←h0];simp)
    cases h.cert pre j u post hS2.2 hDj oj hoj with
    | skip h=>exact .skip h
    | load ho' hw' ha hv' hs hl'=>
      refine .load ho' hw' ha hv' (by simp [hs]) (fun hh=>?_)
      have h9:=hl' hh
      cases b with
      | none=>exact h9
      | some bk=>
        dsimp only
        rename_i bb off cells
        have hne':nx≠bb:=fun h0=>by
         unfold loadC at h9
         rw [←h0,hfr.2.2] at h9
         cases h9
        unfold loadC at h9 ⊢
        rw [Tr.get_put,if_neg hne']
        exact h9
    | op hw' hf=>exact .op hw' hf
    | new hw' hf hA hb' hr hk' h1 h2=>
      cases b with
      | none=>exact .new hw' hf hA hb' hr hk' h1 h2
      | some bk=>
        refine .new hw' hf (by dsimp only;rw [if_neg hne];exact hA) ?_ hr hk' h1 (Nat.lt_succ_of_lt h2)
        dsimp only
        rw [Tr.get_put,if_neg (by omega)];exact hb'
end
end Go.Sy
namespace Go.Sy
variable {P:Program} {e e':Env} {w w':World} {hp hp':Tr Blk} {nx nx' lo hi:Nat}
variable {fx:Fx} {tm:Tr AV} {defs:List Nat} {k:List AI} {cs:List AF} {fr:Frame} {frs:List Frame}
theorem Z8a {id:Nat} {ops:Array Oper} {s':AS} (hM:MR P e lo ⟨⟨fx,tm,.code (.region id ops true)::k,defs,false⟩,cs,hp,nx⟩ fr frs w) (hF:FP e ⟨fx,tm,.code (.region id ops true)::k,defs,false⟩ fr)
 (h:drawA fx tm k defs cs hp nx ops (P.follows .mixedOrders) (masks .nil 0 ops.toList)=some s'):Sim P e ⟨⟨fx,tm,.code (.region id ops true)::k,defs,false⟩,cs,hp,nx⟩ fr frs w s':=by
 have hm:=hF.toFB.runs
 obtain ⟨i,t',ht,hi,hk⟩:=hF.todo.cons_inv
 cases hi
 unfold drawA at h
 split at h
 ·rename_i lm hmx hlm
  split at h
  ·rename_i hap
   simp at h;subst h
   have hms:=MS.of hlm
   intro base
   refine ⟨e,lo,_,frs,w.drew,.one (Y7R hm ht),⟨hM.sr.drew,hM.lob,.inr ⟨⟨hF.fn,hF.kind,hF.mode,hF.round,hF.defs⟩,rfl,ops,_,k,_,t',lm,tm.get,fun _=>none,[],fun _=>false,rfl,rfl,hk,?_,fun h0=>by cases h0⟩,hM.cs.goes (Goes.drew (w:=w) (nx:=nx) (hp:=hp) (lo:=lo) (e:=e))⟩,Goes.drew⟩
   rw [hmx]
   exact { ms:=hms,ap:=hap,sched:=Y6n hms _,nod:=List.nodup_nil,ord:=(fun pre i v post h0=>by simp at h0),done:=(fun j=>by simp),todo:=(fun x=>by simp),sub:=(fun i h0=>by cases h0),
           down:=(fun i o m h0=>by cases h0),tms:=(fun t=>rfl),size:=hF.tm.1,gr:=hF.tm.2,dst:=(fun x h0=>by cases h0),ainj:=(fun i j id h0=>by cases h0),alt:=(fun i id h0=>by cases h0),
           cert:=(fun pre i v post h0=>by simp at h0) }
  ·cases h
 ·cases h
theorem Z9s {ops:Array Oper} {d:Dr} {s':AS} (hM:MR P e lo ⟨⟨fx,tm,.draw ops d::k,defs,false⟩,cs,hp,nx⟩ fr frs w) (hF:FD P e hp lo nx true ⟨fx,tm,.draw ops d::k,defs,false⟩ fr)
 (h:stepDraw P fx tm ops d k defs cs hp nx (pickA P ops hp.get tm d.done nx d.todo .over)=some s'):Sim P e ⟨⟨fx,tm,.draw ops d::k,defs,false⟩,cs,hp,nx⟩ fr frs w s':=by
 have hm:=hF.toFB.runs
 obtain ⟨hB,hrun,ops',d',k0,l,k',lm,g0,A,S,D,h1,ht,hk,hD,hcur⟩:=hF
 simp at h1;obtain ⟨⟨rfl,rfl⟩,rfl⟩:=h1
 have hps:=Z6I (P:=P) (tm:=tm) (ops:=ops) (H:=hp.get) (done:=d.done) (id:=nx) d.todo .over (.inl rfl)
 have hfr:=hM.sr.fresh nx (Nat.le_refl _)
 generalize pickA P ops hp.get tm d.done nx d.todo .over=q at h hps
 cases q with
 | lost=>cases h
 | over=>
   simp only [stepDraw] at h
   split at h
   ·rename_i hnil
    simp at h;subst h
    intro base
    obtain ⟨e',tmps',w',g1,g2,g3,g4⟩:=DR.drain (cs:=frs++base) (k:=k') hnil l fr e w D hD hM.sr hm ht
    refine ⟨e',lo,_,frs,w',g1,⟨g3,hM.lob,.inl ⟨⟨hB.fn,hB.kind,hB.mode,?_,hB.defs.mono g4.le⟩,g2,hk.mono g4.le⟩,hM.cs.goes g4⟩,g4.zero⟩
    exact (hB.mono g4.le).round
   ·cases h
 | fl i o m v b=>
   obtain ⟨hin,hmask,hv⟩:=hps
   simp only [stepDraw] at h
   cases htm:putT fx tm o.dst v with
   | none=>rw [htm] at h;cases seenIf hp.get P tm o (wantedA ops tm o)<;>cases h
   | some tm'=>
     cases hsn:seenIf hp.get P tm o (wantedA ops tm o) with
     | none=>rw [htm,hsn] at h;cases h
     | some sn=>
       rw [htm,hsn] at h
       have hD':=hD.reckon hM.sr hM.lob hin hmask hv htm hsn
       cases b with
       | none=>
         simp only [drFl] at h
         simp at h;subst h
         intro base
         exact ⟨e,lo,fr,frs,w,.refl _ _,⟨hM.sr,hM.lob,.inr ⟨⟨hB.fn,hB.kind,hB.mode,hB.round,hB.defs⟩,rfl,ops,_,k,l,k',lm,g0,_,_,D,rfl,ht,hk,hD',fun h0=>by cases h0⟩,hM.cs⟩,.refl⟩
       | some bk=>
         simp only [drFl] at h
         simp at h;subst h
         intro base
         have hG:Goes nx e hp nx w e (hp.put nx bk) (nx+1) w:=Goes.name hfr.1 (Nat.le_refl _)
         exact ⟨e,lo,fr,frs,w,.refl _ _,⟨hM.sr.name bk,Nat.le_succ_of_le hM.lob,.inr ⟨⟨hB.fn,hB.kind,hB.mode,hB.round,hB.defs⟩,rfl,ops,_,k,l,k',lm,g0,_,_,D,rfl,ht,hk,hD',fun h0=>by cases h0⟩,hM.cs.goes (hG.down hM.lob)⟩,hG.zero⟩
 | ef i o m=>
   rcases hps with ⟨h1,_⟩ | ⟨_,hin,hmask,hw,hun⟩
   ·cases h1
   ·simp only [stepDraw,drEf] at h
    intro base
    obtain ⟨e',tmps',l',w',D',g1,g2,g3,g4⟩:=DR.drive (cs:=frs++base) (k:=k') hun ⟨o,m,hin⟩ l fr e w D hD hM.sr hm ht
    obtain ⟨hlm,hnS⟩:=(g2.todo _).1 hin
    obtain ⟨n,hn,hx⟩:=List.getElem_of_mem hlm
    have hli:lm[n]? = some (i,o,m):=by rw [List.getElem?_eq_getElem hn,hx]
    obtain ⟨rfl,ho⟩:=g2.ms.at_ _ _ _ _ hli
    have hmD:=g2.mask_sub hli g2.sched.1
    have hsees:∀ t∈o.looksAt ops,look ops g0 (only D' S) t=tm.get t:=fun t h0=>by rw [g2.sees0 hli hnS hmD (.inl h0),g2.tms t]
    have hevs:∀ x∈o.op.operands,evA tm x=evF (look ops g0 (only D' S)) x:=fun x h0=>by rw [Z7n];exact (Z9q fun t h9=>hsees t (Z9p h0 h9)).symm
    let fr1:Frame:={ fr with tmps:=tmps',todo:=.inRegion ops (i::l')::k' }
    have hB1:=hB.mono g4.le
    have hG':DR P e' hp lo nx false fx.nt tm ops ⟨d.todo,d.done,d.seen,some (i,o,m)⟩ (i::l') tmps' lm g0 A S D':=
     { g2 with
       cert:=fun pre j u post hS hDj oj hoj=>by
        cases g2.cert pre j u post hS hDj oj hoj with
        | skip h=>exact .skip h
        | load ho hw ha hv hs _=>exact .load ho hw ha hv hs (fun h0=>by cases h0)
        | op hw hf=>exact .op hw hf
        | new hw hf hA hb hr hk h1 h2=>exact .new hw hf hA hb hr hk h1 h2 }
    have hW:Waits P e' lo ⟨fx,tm,.draw ops ⟨d.todo,d.done,d.seen,some (i,o,m)⟩::k,defs,false⟩ cs hp nx fr1 frs w':=
     ⟨g3,hM.lob,.inr ⟨⟨hB1.fn,hB1.kind,hB1.mode,hB1.round,hB1.defs⟩,rfl,ops,_,k,i::l',k',lm,g0,A,S,D',rfl,rfl,hk.mono g4.le,hG',fun _=>⟨i,o,m,l',rfl,hin,hmask,rfl⟩⟩,hM.cs.goes g4⟩
    cases hef:efOr P hp nx (evA tm) o with
    | none=>rw [hef] at h;cases h
    | some x=>
      have hdo:=Y4G (ρ:=fr1.eval) (o:=o) (GR.ev (fr:=fr1) g2.gr) g3
      rw [←Y2F hevs,hef] at hdo
      rw [hef] at h
      have hww:Region.wanted o (yielded ops tmps')=true:=g2.gr.wanted (by rw [Z4y hsees];exact hw)
      obtain ⟨e2,lo2,fr2,cs2,w2,s1,s2,s3⟩:=Z4A hW hm rfl ho hww (Z6P hef) hdo h base
      exact ⟨e2,lo2,fr2,cs2,w2,g1.trans s1,s2,g4.zero.trans s3⟩
/-! ### One step -/
theorem Y6q {c:Code} {s':AS} (hM:MR P e lo ⟨⟨fx,tm,.code c::k,defs,false⟩,cs,hp,nx⟩ fr frs w) (hF:FP e ⟨fx,tm,.code c::k,defs,false⟩ fr)
 (h:stepCode c k P fx tm defs cs hp nx=some s'):Sim P e ⟨⟨fx,tm,.code c::k,defs,false⟩,cs,hp,nx⟩ fr frs w s':=by
 have hm:=hF.toFB.runs
 obtain ⟨i,t',ht,hi,hk⟩:=hF.todo.cons_inv
 cases hi
 have hev:∀ x a,evA tm x=some a→VR e a (fr.eval x):=by rw [Z7n];exact hF.tm.gr.ev
 cases c with
 | skip=>cases (Option.some.inj h:_=s');exact Z1a hM hF hk fun _=>Y1t hm (.inl rfl) ht
 | label l=>cases (Option.some.inj h:_=s');exact Z1a hM hF hk fun _=>Y1t hm (.inr ⟨l,rfl⟩) ht
 | seq a b=>cases (Option.some.inj h:_=s');exact Z1a hM hF (.cons (.code a) (.cons (.code b) hk)) fun _=>Y8N hm ht
 | block id b=>cases (Option.some.inj h:_=s');exact Z1a hM hF (.cons (.code b) (.cons (.inBlock id) hk)) fun _=>Y6g hm ht
 | loop b=>cases (Option.some.inj h:_=s');exact Z1a hM hF (.cons (.code b) (.cons (.inLoop b) hk)) fun _=>Y4w hm (.inl ht)
 | scope b=>cases (Option.some.inj h:_=s');exact Z1a hM hF (.cons (.code b) (.cons (.inScope b) hk)) fun _=>Y6h hm ht
 | refuse _=>cases h
 | ret=>exact Z4B (jump:=some .ret) hM hF ⟨_,ht⟩ h
 | cond c a b=>
   have h:condA fx tm k defs cs hp nx a b (evA tm c)=some s':=h
   unfold condA at h
   split at h
   ·rename_i hc
    have hv:=(hev c _ hc).bool
    cases (Option.some.inj h:_=s');exact Z1a hM hF (.cons (.code a) hk) fun _=>Y4v (t:=true) hm hv ht
   ·rename_i hc
    have hv:=(hev c _ hc).bool
    cases (Option.some.inj h:_=s');exact Z1a hM hF (.cons (.code b) hk) fun _=>Y4v (t:=false) hm hv ht
   ·cases h
 | exit id=>
   have h:exitOr fx tm (.code (.exit id)::k) defs cs hp nx (.exit id) (exitA id k)=some s':=h
   obtain ⟨g1,g2⟩:=hk.exit (id:=id)
   unfold exitOr at h
   split at h
   ·rename_i j hj
    obtain ⟨j',h1,h2⟩:=g1 j hj
    cases (Option.some.inj h:_=s');exact Z1a hM hF h2 fun _=>Y7P hm h1 ht
   ·rename_i hj
    exact Z4B (jump:=some (.exit id)) hM hF ⟨_,ht,g2 hj⟩ h
 | goto l=>
   have h:exitOr fx tm (.code (.goto l)::k) defs cs hp nx (.goto l) (gotoA l k)=some s':=h
   obtain ⟨g1,g2⟩:=hk.goto (l:=l)
   unfold exitOr at h
   split at h
   ·rename_i j hj
    obtain ⟨j',h1,h2⟩:=g1 j hj
    cases (Option.some.inj h:_=s');exact Z1a hM hF h2 fun _=>Y7Q hm h1 ht
   ·rename_i hj
    exact Z4B (jump:=some (.goto l)) hM hF ⟨_,ht,g2 hj⟩ h
 | region id ops draw=>
   cases draw with
   | false=>
     cases (Option.some.inj h:_=s')
     refine Z1a hM hF (.cons ?_ hk) fun _=>Y4x hm ht
     have:=IR.reg (e:=e) ops 0 (Nat.zero_le _)
     rw [List.drop_zero,Nat.sub_zero,←List.range_eq_range'] at this
     exact this
   | true=>exact Z8a hM hF h
 | rangeFunc f ps asn bd=>exact Y4D hM hF h
theorem Y6r {s s':AS} (hM:MR P e lo s fr frs w) (h:stepA P s=some s'):Sim P e s fr frs w s':=by
 obtain ⟨⟨fx,tm,todo,defs,ret⟩,cs,hp,nx⟩:=s
 cases ret with
 | true=>exact Y7T hM h
 | false=>
   have h:stepTodo todo P fx tm defs cs hp nx=some s':=h
   cases todo with
   | nil=>
     rcases hM.fr with hF|hF
     ·refine Z4B (jump:=none) hM hF ?_ h
      have:=hF.todo
      dsimp only at this
      generalize hft:fr.todo=ft at this
      cases this;rfl
     ·obtain ⟨_,_,ops',d,k0,l,k',lm,g0,A,S,D,h1,_⟩:=hF
      cases h1
   | cons a k=>
     rcases hM.fr with hF|hF
     ·have hm:=hF.toFB.runs
      cases a with
      | code c=>exact Y6q hM hF h
      | inBlock id=>
        obtain ⟨i,t',ht,hi,hk⟩:=hF.todo.cons_inv
        cases hi
        cases (Option.some.inj h:_=s');exact Z1a hM hF hk fun _=>Y4u hm (.inl ⟨id,rfl⟩) ht
      | inScope b=>
        obtain ⟨i,t',ht,hi,hk⟩:=hF.todo.cons_inv
        cases hi
        cases (Option.some.inj h:_=s');exact Z1a hM hF hk fun _=>Y4u hm (.inr ⟨b,rfl⟩) ht
      | inLoop b=>
        obtain ⟨i,t',ht,hi,hk⟩:=hF.todo.cons_inv
        cases hi
        cases (Option.some.inj h:_=s');exact Z1a hM hF (.cons (.code b) (.cons (.inLoop b) hk)) fun _=>Y4w hm (.inr ht)
      | reg ops rest=>
        cases rest with
        | nil=>
          obtain ⟨i,t',ht,hi,hk⟩:=hF.todo.cons_inv
          cases (Option.some.inj h:_=s')
          refine Z1a hM hF hk fun _=>?_
          generalize hx:AI.reg ops []=x at hi
          cases hi with
          | reg ops' j hj=>
            injection hx with e1 e2
            subst e1
            rw [Y6o hj e2.symm] at ht
            exact Z9k hm ht
          | _=>cases hx
        | cons o rest=>exact Y8O hM hF h
      | draw ops d=>
        obtain ⟨i,t',ht,hi,hk⟩:=hF.todo.cons_inv
        cases hi
      | inRF l=>cases h
      | endRF l=>exact Y4E hM hF h
      | beginRound=>exact Y4F hM hF h
     ·obtain ⟨_,_,ops',d,k0,l,k',lm,g0,A,S,D,h1,_⟩:=id hF
      simp at h1
      obtain ⟨rfl,rfl⟩:=h1
      exact Z9s hM hF h
theorem Y4H {s':AS}:∀ (n:Nat) (e:Env) (lo:Nat) (s:AS) (fr:Frame) (frs:List Frame) (w:World),MR P e lo s fr frs w→runA P n (some s)=some s'→Sim P e s fr frs w s'
 | 0,e,lo,s,fr,frs,w,hM,h=>by
   cases (Option.some.inj h:s=s')
   exact fun base=>⟨e,lo,fr,frs,w,.refl _ _,hM,.refl⟩
 | n+1,e,lo,s,fr,frs,w,hM,h=>by
   have h:runA P n (stepA P s)=some s':=h
   cases hs:stepA P s with
   | none=>
     rw [hs] at h
     have hnone:∀ n,runA P n none=none:=fun n=>by cases n<;>rfl
     rw [hnone] at h;cases h
   | some s1=>
     rw [hs] at h
     intro base
     obtain ⟨e1,lo1,fr1,frs1,w1,g1,g2,g3⟩:=Y6r hM hs base
     obtain ⟨e2,lo2,fr2,frs2,w2,k1,k2,k3⟩:=Y4H n e1 lo1 s1 fr1 frs1 w1 g2 h base
     exact ⟨e2,lo2,fr2,frs2,w2,g1.trans k1,k2,g3.trans k3⟩
end Go.Sy
namespace Go.Sy
variable {P:Program} {e e':Env} {w w':World} {hp hp':Tr Blk} {nx nx' lo hi:Nat}
/-! ### What is no longer wanted is forgotten -/
noncomputable def keepT {α:Type} (t:Tr α) (l:List Nat):Tr α:=
 match l with
 | []=>.nil
 | i::l=>match t.get i with
   | some x=>(keepT t l).put i x
   | none=>keepT t l
theorem Z1X {α:Type} (t:Tr α):∀ (l:List Nat) (n:Nat) (x:α),(keepT t l).get n=some x→t.get n=some x
 | [],n,x,h=>by simp [keepT,Tr.get_nil] at h
 | i::l,n,x,h=>by
   simp only [keepT] at h
   split at h
   ·rename_i y hy
    rw [Tr.get_put] at h
    split at h
    ·rename_i h0;subst h0;rw [hy];exact h
    ·exact Z1X t l n x h
   ·exact Z1X t l n x h
noncomputable def forget (slots blocks:List Nat):Option AS→Option AS
 | some ⟨⟨fx,tm,todo,defs,ret⟩,[],hp,nx⟩=>match todo with
   | .draw _ _::_=>none
   | _=>some ⟨⟨fx,keepT tm slots,todo,defs,ret⟩,[],keepT hp blocks,nx⟩
 | _=>none
theorem SR.keep (h:SR P e hp nx w) (l:List Nat):SR P e (keepT hp l) nx w where
 hr i b c hi hc:=h.hr i b c (Z1X hp l i b hi) hc
 inj i j c hi hj hic hjc:=by
  obtain ⟨x,hx⟩:=Option.ne_none_iff_exists'.1 hi
  obtain ⟨y,hy⟩:=Option.ne_none_iff_exists'.1 hj
  exact h.inj i j c (by rw [Z1X hp l i x hx];simp) (by rw [Z1X hp l j y hy];simp) hic hjc
 fresh i hi:=by
  have:=h.fresh i hi
  refine ⟨this.1,this.2.1,?_⟩
  cases hk:(keepT hp l).get i with
  | none=>rfl
  | some x=>rw [Z1X hp l i x hk] at this;cases this.2.2
theorem Y2G {slots blocks:List Nat} {s s':AS} {fr:Frame} {frs:List Frame} (hM:MR P e lo s fr frs w) (h:forget slots blocks (some s)=some s') :
 MR P e lo s' fr frs w∧Goes 0 e s.hp s.nx w e s'.hp s'.nx w:=by
 obtain ⟨⟨fx,tm,todo,defs,ret⟩,cs,hp,nx⟩:=s
 unfold forget at h
 split at h
 ·rename_i fx tm todo defs ret hp nx heq
  simp at heq
  obtain ⟨⟨rfl,rfl,rfl,rfl,rfl⟩,rfl,rfl,rfl⟩:=heq
  split at h
  ·cases h
  ·rename_i hnd
   simp at h;subst h
   refine ⟨⟨hM.sr.keep blocks,hM.lob,?_,?_⟩,⟨.refl e,fun _ _=>rfl,fun _ _=>rfl,fun id h0=>absurd h0 (Nat.not_lt_zero id),fun _ _ _=>rfl,fun c id _ h1 h2=>?_,Nat.le_refl _,rfl,rfl,rfl,Nat.le_refl _⟩⟩
   ·rcases hM.fr with hF|hF
    ·exact .inl ⟨⟨hF.fn,hF.kind,hF.mode,hF.round,hF.defs⟩,⟨hF.tm.1,fun t a ha=>hF.tm.2 t a (Z1X tm slots t a ha)⟩,hF.todo⟩
    ·obtain ⟨_,_,ops',d,k0,l,k',lm,g0,A,S,D,h1,_⟩:=hF
     exact absurd h1 (hnd ops' d k0)
   ·have:=hM.cs
    dsimp only at this ⊢
    cases this
    exact .nil
   ·obtain ⟨x,hx⟩:=Option.ne_none_iff_exists'.1 h1
    exact ⟨id,by rw [Z1X hp blocks id x hx];simp,h2⟩
 ·cases h
theorem stretch {n:Nat} {slots blocks:List Nat} {s s':AS} (h:forget slots blocks (runA P n (some s))=some s') {fr:Frame} {frs:List Frame} (hM:MR P e lo s fr frs w):Sim P e s fr frs w s':=by
 cases hr:runA P n (some s) with
 | none=>rw [hr] at h;cases h
 | some s1=>
   rw [hr] at h
   intro base
   obtain ⟨e1,lo1,fr1,frs1,w1,g1,g2,g3⟩:=Y4H n e lo s fr frs w hM hr base
   obtain ⟨g4,g5⟩:=Y2G g2 h
   exact ⟨e1,lo1,fr1,frs1,w1,g1,g4,g3.trans g5⟩
def Leads (P:Program) (s s':AS):Prop := ∀ e lo fr frs w,MR P e lo s fr frs w→Sim P e s fr frs w s'
theorem Leads.stretch {n:Nat} {slots blocks:List Nat} {s s':AS} (h:forget slots blocks (runA P n (some s))=some s'):Leads P s s':=fun _ _ _ _ _ hM=>Sy.stretch h hM
theorem Leads.trans {s s' s'':AS} (h:Leads P s s') (k:Leads P s' s''):Leads P s s'':=fun e lo fr frs w hM base=>by
 obtain ⟨e1,lo1,fr1,frs1,w1,g1,g2,g3⟩:=h e lo fr frs w hM base
 obtain ⟨e2,lo2,fr2,frs2,w2,k1,k2,k3⟩:=k e1 lo1 fr1 frs1 w1 g2 base
 exact ⟨e2,lo2,fr2,frs2,w2,g1.trans k1,k2,g3.trans k3⟩
theorem Leads.calls {f:FuncId} {af:AF} {s:AS} {u:Value} (h0:enterA P f []=some af) (h:Leads P ⟨af,[],.nil,0⟩ s) (hr:s.fr.ret=true) (hc:s.cs=[]) (hd:s.fr.defs=[]) (hf:s.fr.fx.fn=f)
 (hv:resultA P s.hp.get s.fr.fx.fn s.fr.tm=some (.lit u)) (w:World):Calls P f #[] w (fun e w'=>e=.returned u∧w.Extends w'):=by
 intro cs
 obtain ⟨hFP,_⟩:=Z6H (P:=P) (e:=⟨fun _=>none,fun _=>none⟩) (vs:=[]) .nil h0
 have hM:MR P ⟨fun _=>none,fun _=>none⟩ 0 ⟨af,[],.nil,0⟩ (Frame.enter P f ⟨[]⟩ .normal) [] w:=
  ⟨⟨fun i b c hi=>by simp [Tr.get_nil] at hi,fun i j c hi=>by simp [Tr.get_nil] at hi,fun i _=>⟨rfl,rfl,by simp [Tr.get_nil]⟩⟩,Nat.le_refl _,.inl hFP,.nil⟩
 obtain ⟨e',lo',fr',cs',w',g1,g2,g3⟩:=h _ _ _ _ _ hM cs
 obtain ⟨⟨fx,tm,todo,defs,ret⟩,scs,hp,nx⟩:=s
 dsimp only at hr hc hd hf hv
 subst hr;subst hc;subst hd
 have hK:=g2.cs
 dsimp only at hK
 cases hK
 have hF:FP e' ⟨fx,tm,todo,[],true⟩ fr':=by
  rcases g2.fr with hF|hF
  ·exact hF
  ·exact absurd hF.run (by simp)
 obtain ⟨fn,v',hfn,hres,hvr⟩:=Z7r g2.sr hF hv
 cases hvr with
 | lit _=>
   have hdl:=hF.defs
   dsimp only at hdl
   have hdef:fr'.defers=[]:=by
    generalize fr'.defers=fd at hdl
    cases hdl;rfl
   have hfr:fr'.fn=f:=hF.fn.trans hf
   refine ⟨.returned u,w',fr',⟨rfl,?_⟩,g1,hfr,hF.mode,hdef,hF.kind,fn,hfn,hres⟩
   have hblock:∀ i:Nat,i<w.heap.size→w'.heap[i]? = w.heap[i]? := fun i hi=>g3.keep i hi fun id h0=>by simp [Tr.get_nil] at h0
   refine ⟨g3.os,g3.tape,g3.output,g3.size,fun a ha=>?_,fun a ha=>?_,hblock⟩
   ·simp only [World.cell?,hblock a.block ha]
   ·simp only [World.frozen?,hblock a.block ha]
end Go.Sy
