/- Merged texts. -/
import Derived.Test.YtnmedachaeanbaaGreatDoorB37
set_option linter.unusedVariables false
set_option linter.unusedSimpArgs false
namespace Go.Sy
variable {P:Program} {w w':World} {fr:Frame} {cs:List Frame} {k:List Item}
/-! ### The lone machine's steps, whatever the frame -/
theorem Y1t (hm:fr.mode=.run) {c:Code} (hc:c=.skip∨∃ l,c=.label l) (ht:fr.todo=.code c::k):step P (lone fr cs w)=.next (lone { fr with todo:=k } cs w):=
 step_lone_go (by rcases hc with rfl | ⟨l,rfl⟩<;>simp [stepG,stepG.exec,hm,ht])
theorem Y4u (hm:fr.mode=.run) {i:Item} (hi:(∃ id,i=.inBlock id)∨(∃ b,i=.inScope b)) (ht:fr.todo=i::k):step P (lone fr cs w)=.next (lone { fr with todo:=k } cs w):=
 step_lone_go (by rcases hi with ⟨l,rfl⟩ | ⟨l,rfl⟩<;>simp [stepG,stepG.exec,hm,ht])
theorem Y8N (hm:fr.mode=.run) {a b:Code} (ht:fr.todo=.code (.seq a b)::k):step P (lone fr cs w)=.next (lone { fr with todo:=.code a :: .code b::k } cs w):=
 step_lone_go (by simp [stepG,stepG.exec,hm,ht])
theorem Y4v (hm:fr.mode=.run) {c:Operand} {a b:Code} {t:Bool} (hc:fr.eval c=.bool t) (ht:fr.todo=.code (.cond c a b)::k):step P (lone fr cs w)=.next (lone { fr with todo:=.code (if t then a else b)::k } cs w):=
 step_lone_go (by simp [stepG,stepG.exec,hm,ht,hc])
theorem Y6g (hm:fr.mode=.run) {id:Nat} {b:Code} (ht:fr.todo=.code (.block id b)::k):step P (lone fr cs w)=.next (lone { fr with todo:=.code b :: .inBlock id::k } cs w):=
 step_lone_go (by simp [stepG,stepG.exec,hm,ht])
theorem Y4w (hm:fr.mode=.run) {b:Code} (ht:fr.todo=.code (.loop b)::k∨fr.todo=.inLoop b::k):step P (lone fr cs w)=.next (lone { fr with todo:=.code b :: .inLoop b::k } cs w):=
 step_lone_go (by rcases ht with ht|ht<;>simp [stepG,stepG.exec,hm,ht])
theorem Y6h (hm:fr.mode=.run) {b:Code} (ht:fr.todo=.code (.scope b)::k):step P (lone fr cs w)=.next (lone { fr with todo:=.code b :: .inScope b::k } cs w):=
 step_lone_go (by simp [stepG,stepG.exec,hm,ht])
theorem Y7P (hm:fr.mode=.run) {id:Nat} {k':List Item} (hk:exitTo id k=some k') (ht:fr.todo=.code (.exit id)::k):step P (lone fr cs w)=.next (lone { fr with todo:=k' } cs w):=
 step_lone_go (by simp [stepG,stepG.exec,hm,ht,hk])
theorem Y7Q (hm:fr.mode=.run) {l:Nat} {k':List Item} (hk:gotoIn l k=some k') (ht:fr.todo=.code (.goto l)::k):step P (lone fr cs w)=.next (lone { fr with todo:=k' } cs w):=
 step_lone_go (by simp [stepG,stepG.exec,hm,ht,hk])
theorem Y4x (hm:fr.mode=.run) {id:Nat} {ops:Array Oper} (ht:fr.todo=.code (.region id ops false)::k):step P (lone fr cs w)=.next (lone { fr with todo:=.inRegion ops (List.range ops.size)::k } cs w):=
 step_lone_go (by simp [stepG,stepG.exec,hm,ht])
theorem Y7R (hm:fr.mode=.run) {id:Nat} {ops:Array Oper} (ht:fr.todo=.code (.region id ops true)::k) :
 step P (lone fr cs w)=.next (lone { fr with todo:=.inRegion ops (Region.schedule (P.follows .mixedOrders) ops (w.tape w.drawn (.order fr.fn id)))::k } cs w.drew):=
 step_lone_go (by simp [stepG,stepG.exec,hm,ht,choose,Sem.run,Question.forced,Question.cut])
theorem Z9k (hm:fr.mode=.run) {ops:Array Oper} (ht:fr.todo=.inRegion ops []::k):step P (lone fr cs w)=.next (lone { fr with todo:=k } cs w):=
 step_lone_go (by simp [stepG,stepG.exec,hm,ht])
theorem Y6i (hm:fr.mode=.run) (hr:fr.roundOf=none) (ht:fr.todo=[]∨∃ k,fr.todo=.code .ret::k):step P (lone fr cs w)=.next (lone { fr with mode:=.returning } cs w):=
 step_lone_go (by rcases ht with ht | ⟨k,ht⟩<;>simp [stepG,stepG.exec,hm,ht,hr])
def Y6j (todo:List Item):Option Code→Prop
 | none=>todo=[]
 | some .ret => ∃ k,todo=.code .ret::k
 | some (.exit id) => ∃ k,todo=.code (.exit id)::k∧exitTo id k=none
 | some (.goto l) => ∃ k,todo=.code (.goto l)::k∧gotoIn l k=none
 | _=>False
theorem Z77 (hm:fr.mode=.run) {l:Nat} (hr:fr.roundOf=some l) (hk:fr.kind=.normal) {jump:Option Code} (ht:Y6j fr.todo jump) {v:Value} {c:Frame} (he:(Instr.endRound l jump).run P w=.ok v w') :
 step P (lone fr (c::cs) w)=.next (lone (c.finish v) cs w'):=by
 refine step_lone_go ?_
 cases jump with
 | none=>simp only [Y6j] at ht;simp [stepG,stepG.exec,hm,ht,hr,he,doReturn,hk]
 | some j=>
   cases j<;>simp only [Y6j] at ht<;>try exact ht.elim
   ·obtain ⟨k,h1,h2⟩:=ht;simp [stepG,stepG.exec,hm,h1,h2,hr,he,doReturn,hk]
   ·obtain ⟨k,h1,h2⟩:=ht;simp [stepG,stepG.exec,hm,h1,h2,hr,he,doReturn,hk]
   ·obtain ⟨k,h1⟩:=ht;simp [stepG,stepG.exec,hm,h1,hr,he,doReturn,hk]
theorem Z9l (hm:fr.mode=.run) {ops:Array Oper} {i:Nat} {rest:List Nat} {o:Oper} (ho:ops[i]? = some o) (hw:Region.wanted o (yielded ops fr.tmps)=false) (ht:fr.todo=.inRegion ops (i::rest)::k) :
 step P (lone fr cs w)=.next (lone (fr.finish undef) cs w):=
 step_lone_go (by simp [stepG,stepG.exec,hm,ht,ho,hw])
theorem Y7S (hm:fr.mode=.run) {ops:Array Oper} {i:Nat} {rest:List Nat} {o:Oper} (ho:ops[i]? = some o) (hw:Region.wanted o (yielded ops fr.tmps)=true) (hd:∀ c,o.op ≠ .defer c) (ht:fr.todo=.inRegion ops (i::rest)::k) :
 stepG P true { frame:=fr,callers:=cs,status:=.running,dying:=none } w=stepG.apply P true fr cs none (execOp fr.eval o) w:=by
 have:(match fr.roundOf,o.op with
  | some l,.defer c=>stepG.apply P true fr cs none (do Instr.deferInRound l (←resolve fr.eval c o.type);pure .skip) w
  | _,_=>stepG.apply P true fr cs none (execOp fr.eval o) w)=stepG.apply P true fr cs none (execOp fr.eval o) w:=by
  split
  ·rename_i c _ h;exact absurd h (hd c)
  ·rfl
 simp only [stepG,hm,stepG.exec,ht,ho,Option.map_some,hw,Option.getD_some,if_true,stepG.oper,Frame.oper?]
 exact this
theorem Z42 (hm:fr.mode=.run) {ops:Array Oper} {i:Nat} {rest:List Nat} {o:Oper} (ho:ops[i]? = some o) (hw:Region.wanted o (yielded ops fr.tmps)=true) (hd:∀ c,o.op ≠ .defer c) (ht:fr.todo=.inRegion ops (i::rest)::k)
 {n:Next} {v:Value} (hn:n=.value v∨(n=.skip∧v=undef)) (hr:(execOp fr.eval o).run P w=.ok n w'):step P (lone fr cs w)=.next (lone (fr.finish v) cs w'):=
 step_lone_go (by rw [Y7S hm ho hw hd ht];rcases hn with rfl | ⟨rfl,rfl⟩<;>simp [stepG.apply,hr])
theorem Y2D (hm:fr.mode=.run) {ops:Array Oper} {i:Nat} {rest:List Nat} {o:Oper} (ho:ops[i]? = some o) (hw:Region.wanted o (yielded ops fr.tmps)=true) (hd:∀ c,o.op ≠ .defer c) (ht:fr.todo=.inRegion ops (i::rest)::k)
 {f:FuncId} {args:Array Value} (hr:(execOp fr.eval o).run P w=.ok (.enter f args) w'):step P (lone fr cs w)=.next (lone (Frame.enter P f args .normal) (fr::cs) w'):=
 step_lone_go (by rw [Y7S hm ho hw hd ht];simp [stepG.apply,hr,ht])
theorem Y2E (hm:fr.mode=.run) {ops:Array Oper} {i:Nat} {rest:List Nat} {o:Oper} (ho:ops[i]? = some o) (hw:Region.wanted o (yielded ops fr.tmps)=true) (hd:∀ c,o.op ≠ .defer c) (ht:fr.todo=.inRegion ops (i::rest)::k)
 {l:Nat} {f:FuncId} {tmps:Array Value} {as bd:Code} (hr:(execOp fr.eval o).run P w=.ok (.round l f tmps as bd) w'):step P (lone fr cs w)=.next (lone (Frame.round l f tmps as bd .normal) (fr::cs) w'):=
 step_lone_go (by rw [Y7S hm ho hw hd ht];simp [stepG.apply,hr,ht])
theorem Y4y (hm:fr.mode=.returning) (hd:fr.defers=[]) (hk:fr.kind=.normal) {fn:Func} {v:Value} {c:Frame} (hf:P.funcs[fr.fn]? = some fn) (hr:(results fn fr.tmps).run P w=.ok v w) :
 step P (lone fr (c::cs) w)=.next (lone (c.finish v) cs w):=
 step_lone_go (by simp [stepG,unwind,doReturn,hm,hd,hk,hf,hr])
theorem Y6k (hm:fr.mode=.returning) {b:Nat} {ds:List Deferred} (hd:fr.defers={ target:=.collected b,args:=#[] }::ds) (hr:(Instr.takeDeferred b).run P w=.ok [] w') :
 step P (lone fr cs w)=.next (lone { fr with defers:=ds } cs w'):=
 step_lone_go (by simp [stepG,unwind,hm,hd,hr])
theorem Z5h (hm:fr.mode=.run) {f:Operand} {ps:Array Tmp} {as bd:Code} (ht:fr.todo=.code (.rangeFunc f ps as bd)::k) {l:Nat} {mark:List Deferred} {w1:World}
 (h1:(Instr.enterLoop fr.fn fr.tmps ps as bd fr.roundOf).run P w=.ok (l,mark) w1) {g:FuncId} {vs:Array Value} (hf:fr.eval f=.func (.func g) #[] vs)
 (hc:(callFunc g (#[.func (.yield l) #[] #[]]++vs)).run P w1=.ok (.enter g (#[.func (.yield l) #[] #[]]++vs)) w1) :
 step P (lone fr cs w)=.next (lone (Frame.enter P g (#[.func (.yield l) #[] #[]]++vs) .normal) ({ fr with todo:=.inRangeFunc l::k,defers:=mark++fr.defers }::cs) w1):=by
 obtain ⟨fn,tmps,todo,defers,mode,kind,rd⟩:=fr
 dsimp only at hm ht h1
 subst hm;subst ht
 refine step_lone_go ?_
 have hf':Frame.eval { fn,tmps,todo:=.inRangeFunc l::k,defers:=mark++defers,mode:=.run,kind,roundOf:=rd } f=.func (.func g) #[] vs:=by
  rw [←hf];cases f<;>rfl
 have hy:Frame.eval { fn,tmps,todo:=.inRangeFunc l::k,defers:=mark++defers,mode:=.run,kind,roundOf:=rd } (.const (.func (.yield l) #[] #[]))=.func (.yield l) #[] #[]:=rfl
 have hcall:((do let d ←resolve (Frame.eval { fn,tmps,todo:=.inRangeFunc l::k,defers:=mark++defers,mode:=.run,kind,roundOf:=rd }) { callee:=.value f,args:=#[.const (.func (.yield l) #[] #[])],argTypes:=#[] } 0;invoke d.target d.args):Sem Next).run P w1 =
  .ok (.enter g (#[.func (.yield l) #[] #[]]++vs)) w1:=by
  simp only [resolve,hf',Deferred.ofValue,Sem.run_bind,Sem.run_pure,Result.andThen_ok,invoke]
  simpa [hy] using hc
 simp only [stepG,stepG.exec,Sem.runT_eq,h1,GStep.bare_after]
 simp only [stepG.apply,Sem.runT_eq,hcall,GStep.bare_after,if_true]
 simp
theorem Z78 (hm:fr.mode=.run) {l:Nat} (hr:fr.roundOf=some l) (ht:fr.todo=.beginRound::k) (hb:(Instr.beginRound l).run P w=.ok () w'):step P (lone fr cs w)=.next (lone { fr with todo:=k } cs w'):=
 step_lone_go (by simp [stepG,stepG.exec,hm,ht,hr,stepG.apply,hb,Frame.finish])
theorem Y6l (hm:fr.mode=.run) {l:Nat} (ht:fr.todo=.endRangeFunc l::k) {j:Option Code} (he:(Instr.endLoop l).run P w=.ok j w'):step P (lone fr cs w)=.next (lone { fr with todo:=(j.map Item.code).toList++k } cs w'):=
 step_lone_go (by simp [stepG,stepG.exec,hm,ht,he])
end Go.Sy
namespace Go.Sy
variable {P:Program} {e:Env} {w w':World} {hp hp':Tr Blk} {nx nx':Nat}
/-! ### Operands by a look-up -/
noncomputable def evF (g:Nat→Option AV):Operand→Option AV
 | .tmp t=>g t
 | .const v=>some (conv v)
 | .global n=>some (.lit (.pointer (some ⟨n,0,none⟩)))
 | .func f=>some (.clo f [])
theorem Z7n (tm:Tr AV):evA tm=evF tm.get:=by
 funext x
 cases x<;>rfl
def GR (e:Env) (g:Nat→Option AV) (tmps:Array Value):Prop := ∀ t a,g t=some a→∃ v,tmps[t]? = some v∧VR e a v
theorem GR.ev {g:Nat→Option AV} {fr:Frame} (h:GR e g fr.tmps):∀ x a,evF g x=some a→VR e a (fr.eval x):=by
 intro x a hx
 cases x with
 | tmp t=>
   obtain ⟨v,hv,hr⟩:=h t a hx
   have:fr.eval (.tmp t)=v:=by simp [Frame.eval,hv]
   rw [this];exact hr
 | const v=>simp [evF] at hx;subst hx;exact Y0f e v
 | global n=>simp [evF] at hx;subst hx;exact .lit _
 | func f=>simp [evF] at hx;subst hx;exact .clo .nil
def Z3S (ops:Array Oper) (g:Nat→Option AV) (j:Nat):Option (Option Bool):=
 match (ops[j]?).bind (·.dst) with
 | none=>some none
 | some d=>match g d with
   | some (.lit (.bool b))=>some (some b)
   | some (.tup _)=>some none
   | _=>none
def Z1M (ops:Array Oper) (g:Nat→Option AV) (o:Oper):Option Bool:=
 match o.guard with
 | none=>some true
 | some (j,want)=>match Z3S ops g j with
   | some (some b)=>some (b==want)
   | some none=>some false
   | none=>none
theorem Z43 (ops:Array Oper) (tm:Tr AV) (o:Oper):wantedA ops tm o=Z1M ops tm.get o:=rfl
theorem GR.wanted {g:Nat→Option AV} {tmps:Array Value} {ops:Array Oper} {o:Oper} {b:Bool} (h:GR e g tmps) (hw:Z1M ops g o=some b):Region.wanted o (yielded ops tmps)=b:=by
 unfold Z1M at hw
 unfold Region.wanted
 split at hw
 ·rename_i hg;simp at hw;subst hw;rw [hg]
 ·rename_i j want hg
  rw [hg]
  simp only
  have key:∀ r,Z3S ops g j=some r→yielded ops tmps j=r:=by
   intro r hr
   unfold Z3S at hr
   unfold yielded
   split at hr
   ·rename_i hd;simp at hr;subst hr;rw [hd];rfl
   ·rename_i d hd
    rw [hd]
    simp only [Option.bind_some]
    split at hr
    ·rename_i bb hgd
     obtain ⟨v,hv,hvr⟩:=h d _ hgd
     cases hvr with
     | lit _=>rw [hv];simp at hr;subst hr;rfl
    ·rename_i l hgd
     obtain ⟨v,hv,hvr⟩:=h d _ hgd
     cases hvr with
     | tup _=>rw [hv];simp at hr;subst hr;rfl
    ·cases hr
  split at hw
  ·rename_i bb hy
   simp at hw;subst hw
   rw [key _ hy]
   cases bb<;>cases want<;>rfl
  ·rename_i hy
   simp at hw;subst hw
   rw [key _ hy];rfl
  ·cases hw
theorem TR.gr {nt:Nat} {tm:Tr AV} {tmps:Array Value} (h:TR e nt tm tmps):GR e tm.get tmps:=h.2
def Z1N (tmps:Array Value) (dst:Option Tmp) (v:Value):Array Value:=
 match dst with
 | some d=>tmps.setIfInBounds d v
 | none=>tmps
theorem Z2X {fx:Fx} {tm tm':Tr AV} {dst:Option Tmp} {v:AV} (h:putT fx tm dst v=some tm'):(dst=none∧tm'=tm)∨∃ d,dst=some d∧d<fx.nt∧tm'=tm.put d v:=by
 cases dst with
 | none=>exact .inl ⟨rfl,(Option.some.inj h).symm⟩
 | some d=>
   have h':Bool.rec (motive:=fun _=>Option (Tr AV)) none (some (tm.put d v)) (Nat.ble (Nat.succ d) fx.nt)=some tm':=h
   cases hb:Nat.ble (Nat.succ d) fx.nt with
   | false=>rw [hb] at h';cases h'
   | true=>rw [hb] at h';exact .inr ⟨d,rfl,Nat.le_of_ble_eq_true hb,(Option.some.inj h').symm⟩
theorem TR.put {fx:Fx} {tm tm':Tr AV} {dst:Option Tmp} {a:AV} {v:Value} {tmps:Array Value} (h:TR e fx.nt tm tmps) (hv:VR e a v) (hp:putT fx tm dst a=some tm'):TR e fx.nt tm' (Z1N tmps dst v):=by
 rcases Z2X hp with ⟨rfl,rfl⟩ | ⟨d,rfl,hlt,rfl⟩
 ·exact h
 ·refine ⟨by simp [Z1N,h.1],fun t x hx=>?_⟩
  rw [Tr.get_put] at hx
  split at hx
  ·rename_i h0;subst h0;cases hx
   exact ⟨v,by simp [Z1N,h.1,hlt],hv⟩
  ·rename_i h0
   obtain ⟨u,hu,hr⟩:=h.2 t x hx
   exact ⟨u,by simp only [Z1N];rw [Array.getElem?_setIfInBounds_ne h0];exact hu,hr⟩
theorem Z1o {fr:Frame} {ops:Array Oper} {i:Nat} {rest:List Nat} {k:List Item} {o:Oper} (ho:ops[i]? = some o) (ht:fr.todo=.inRegion ops (i::rest)::k) (v:Value) :
 fr.finish v={ fr with tmps:=Z1N fr.tmps o.dst v,todo:=.inRegion ops rest::k }:=by
 simp only [Frame.finish,ht,ho,Option.bind_some,Z1N]
 cases o.dst<;>rfl
/-! ### Todo lists -/
inductive IR (e:Env):AI→Item→Prop
 | code (c:Code):IR e (.code c) (.code c)
 | inBlock (id:Nat):IR e (.inBlock id) (.inBlock id)
 | inLoop (b:Code):IR e (.inLoop b) (.inLoop b)
 | inScope (b:Code):IR e (.inScope b) (.inScope b)
 | beginRound:IR e .beginRound .beginRound
 | reg (ops:Array Oper) (j:Nat) (hj:j≤ops.size):IR e (.reg ops (ops.toList.drop j)) (.inRegion ops (List.range' j (ops.size-j)))
 | inRF {l c:Nat} (h:e.ρ l=some c):IR e (.inRF l) (.inRangeFunc c)
 | endRF {l c:Nat} (h:e.ρ l=some c):IR e (.endRF l) (.endRangeFunc c)
inductive TD (e:Env):List AI→List Item→Prop
 | nil:TD e [] []
 | cons {a:AI} {i:Item} {k:List AI} {k':List Item} (h:IR e a i) (t:TD e k k'):TD e (a::k) (i::k')
theorem IR.mono {e e':Env} (hle:e.le e') {a:AI} {i:Item} (h:IR e a i):IR e' a i:=by
 cases h with
 | code c=>exact .code c
 | inBlock id=>exact .inBlock id
 | inLoop b=>exact .inLoop b
 | inScope b=>exact .inScope b
 | beginRound=>exact .beginRound
 | reg ops j hj=>exact .reg ops j hj
 | inRF h=>exact .inRF (hle.ρ _ _ h)
 | endRF h=>exact .endRF (hle.ρ _ _ h)
theorem TD.mono {e e':Env} (hle:e.le e'):∀ {k:List AI} {k':List Item},TD e k k'→TD e' k k'
 | _,_,.nil=>.nil
 | _,_,.cons h t=>.cons (h.mono hle) (TD.mono hle t)
theorem TD.exit {id:Nat}:∀ {k:List AI} {k':List Item},TD e k k'→(∀ j,exitA id k=some j→∃ j',exitTo id k'=some j'∧TD e j j')∧(exitA id k=none→exitTo id k'=none)
 | _,_,.nil=>⟨fun j h=>by simp [exitA] at h,fun _=>rfl⟩
 | _,_,.cons h t=>by
   have ih:=TD.exit (id:=id) t
   cases h with
   | inBlock id'=>
     constructor
     ·intro j hj
      simp only [exitA] at hj
      split at hj
      ·rename_i hb
       have:=Nat.eq_of_beq_eq_true hb
       subst this
       simp at hj;subst hj
       exact ⟨_,by simp [exitTo],t⟩
      ·rename_i hb
       obtain ⟨j',h1,h2⟩:=ih.1 j hj
       have hne:¬ id'=id:=fun h0=>by subst h0;simp at hb
       exact ⟨j',by simp [exitTo,hne,h1],h2⟩
     ·intro hj
      simp only [exitA] at hj
      split at hj
      ·cases hj
      ·rename_i hb
       have hne:¬ id'=id:=fun h0=>by subst h0;simp at hb
       simp [exitTo,hne,ih.2 hj]
   | _=>exact ⟨fun j hj=>ih.1 j (by simpa [exitA] using hj),fun hj=>by simpa [exitTo] using ih.2 (by simpa [exitA] using hj)⟩
theorem TD.goto {l:Nat}:∀ {k:List AI} {k':List Item},TD e k k'→(∀ j,gotoA l k=some j→∃ j',gotoIn l k'=some j'∧TD e j j')∧(gotoA l k=none→gotoIn l k'=none)
 | _,_,.nil=>⟨fun j h=>by simp [gotoA] at h,fun _=>rfl⟩
 | _,_,.cons h t=>by
   have ih:=TD.goto (l:=l) t
   cases h with
   | inScope b=>
     constructor
     ·intro j hj
      simp only [gotoA] at hj
      split at hj
      ·rename_i rest hb
       simp at hj;subst hj
       exact ⟨_,by simp [gotoIn,hb],.cons (.code _) (.cons (.inScope _) t)⟩
      ·rename_i hb
       obtain ⟨j',h1,h2⟩:=ih.1 j hj
       exact ⟨j',by simp [gotoIn,hb,h1],h2⟩
     ·intro hj
      simp only [gotoA] at hj
      split at hj
      ·cases hj
      ·rename_i hb
       simp [gotoIn,hb,ih.2 hj]
   | _=>exact ⟨fun j hj=>ih.1 j (by simpa [gotoA] using hj),fun hj=>by simpa [gotoIn] using ih.2 (by simpa [gotoA] using hj)⟩
/-! ### Frames -/
inductive DL (e:Env):List Nat→List Deferred→Prop
 | nil:DL e [] []
 | cons {d c:Nat} {ds:List Nat} {l:List Deferred} (h:e.ρ d=some c) (t:DL e ds l):DL e (d::ds) ({ target:=.collected c,args:=#[] }::l)
theorem DL.mono {e e':Env} (hle:e.le e'):∀ {ds:List Nat} {l:List Deferred},DL e ds l→DL e' ds l
 | _,_,.nil=>.nil
 | _,_,.cons h t=>.cons (hle.ρ _ _ h) (DL.mono hle t)
structure FB (e:Env) (f:AF) (fr:Frame):Prop where
 fn:fr.fn=f.fx.fn
 kind:fr.kind=.normal
 mode:fr.mode=if f.ret then .returning else .run
 round:match f.fx.round with
  | none=>fr.roundOf=none
  | some l => ∃ c,e.ρ l=some c∧fr.roundOf=some c
 defs:DL e f.defs fr.defers
theorem FB.mono {e e':Env} (hle:e.le e') {f:AF} {fr:Frame} (h:FB e f fr):FB e' f fr where
 fn:=h.fn
 kind:=h.kind
 mode:=h.mode
 round:=by
  have:=h.round
  split at this
  ·exact this
  ·obtain ⟨c,h1,h2⟩:=this;exact ⟨c,hle.ρ _ _ h1,h2⟩
 defs:=h.defs.mono hle
structure FP (e:Env) (f:AF) (fr:Frame):Prop extends FB e f fr where
 tm:TR e f.fx.nt f.tm fr.tmps
 todo:TD e f.todo fr.todo
theorem FP.mono {e e':Env} (hle:e.le e') {f:AF} {fr:Frame} (h:FP e f fr):FP e' f fr:=⟨h.toFB.mono hle,h.tm.mono hle,h.todo.mono hle⟩
end Go.Sy
namespace Go.Sy
/-! ### What an operation waits for -/
def Y0n (acc:Nat→Option Nat) (s:Option Nat) (e:Edge):Option Nat:=
 match Region.binds .any e with
 | true=>match s,acc e.on with|some s,some m=>some (s|||2 ^ e.on|||m)|_,_=>none
 | false=>s
theorem Z9m (acc:Nat→Option Nat):∀ L:List Edge,L.foldl (Y0n acc) none=none
 | []=>rfl
 | e::L=>by
   have:Y0n acc none e=none:=by unfold Y0n;split<;>rfl
   rw [List.foldl_cons,this,Z9m acc L]
theorem Z9n (acc:Nat→Option Nat):∀ (L:List Edge) (s m:Nat),L.foldl (Y0n acc) (some s)=some m →
 (∀ e∈L,Region.binds .any e=true→∃ me,acc e.on=some me∧m.testBit e.on=true∧∀ j,me.testBit j=true→m.testBit j=true) ∧
 (∀ j,s.testBit j=true→m.testBit j=true) ∧
 (∀ j,m.testBit j=true→s.testBit j=true∨∃ e∈L,Region.binds .any e=true∧(j=e.on∨∃ me,acc e.on=some me∧me.testBit j=true))
 | [],s,m,h=>by
   simp at h;subst h
   exact ⟨by simp,fun _ h=>h,fun _ h=>.inl h⟩
 | e::L,s,m,h=>by
   rw [List.foldl_cons] at h
   cases hs:Y0n acc (some s) e with
   | none=>rw [hs,Z9m] at h;cases h
   | some s'=>
     rw [hs] at h
     obtain ⟨h1,h2,h3⟩:=Z9n acc L s' m h
     unfold Y0n at hs
     split at hs
     ·rename_i hb
      split at hs
      ·rename_i x me hx he
       simp at hx;subst hx
       simp at hs;subst hs
       have hor:∀ j,(s|||2 ^ e.on|||me).testBit j=(s.testBit j || decide (e.on=j) || me.testBit j):=fun j=>by
        rw [Nat.testBit_or,Nat.testBit_or,Nat.testBit_two_pow]
       refine ⟨fun x hx hbx=>?_,fun j hj=>h2 j (by rw [hor];simp [hj]),fun j hj=>?_⟩
       ·rcases List.mem_cons.1 hx with rfl|hx
        ·exact ⟨me,he,h2 _ (by rw [hor];simp),fun j hj=>h2 j (by rw [hor];simp [hj])⟩
        ·exact h1 x hx hbx
       ·rcases h3 j hj with h4 | ⟨x,hx,h5,h6⟩
        ·rw [hor] at h4
         simp only [Bool.or_eq_true,decide_eq_true_eq] at h4
         rcases h4 with (h4|h4)|h4
         ·exact .inl h4
         ·exact .inr ⟨e,by simp,hb,.inl h4.symm⟩
         ·exact .inr ⟨e,by simp,hb,.inr ⟨me,he,h4⟩⟩
        ·exact .inr ⟨x,by simp [hx],h5,h6⟩
      ·cases hs
     ·rename_i hb
      simp at hs;subst hs
      refine ⟨fun x hx hbx=>?_,h2,fun j hj=>?_⟩
      ·rcases List.mem_cons.1 hx with rfl|hx
       ·rw [hbx] at hb;cases hb
       ·exact h1 x hx hbx
      ·rcases h3 j hj with h4 | ⟨x,hx,h5,h6⟩
       ·exact .inl h4
       ·exact .inr ⟨x,by simp [hx],h5,h6⟩
def mAt (lm:List (Nat×Oper×Nat)) (j:Nat):Option Nat:=(lm[j]?).map (·.2.2)
structure MS (ops:Array Oper) (lm:List (Nat×Oper×Nat)):Prop where
 len:lm.length=ops.size
 at_:∀ (n i:Nat) (o:Oper) (m:Nat),lm[n]? = some (i,o,m)→i=n∧ops[n]? = some o
 up:∀ (n:Nat) (o:Oper) (m:Nat),lm[n]? = some (n,o,m)→∀ e∈o.after,Region.binds .any e=true→e.on<n∧m.testBit e.on=true∧∀ me,mAt lm e.on=some me→∀ j,me.testBit j=true→m.testBit j=true
 down:∀ (n:Nat) (o:Oper) (m:Nat),lm[n]? = some (n,o,m)→∀ j,m.testBit j=true→∃ e∈o.after,Region.binds .any e=true∧e.on<n∧(j=e.on∨∃ me,mAt lm e.on=some me∧me.testBit j=true)
theorem Z7o:∀ (L:List Oper) (acc:Tr Nat) (pre:List (Nat×Oper×Nat)) (lm:List (Nat×Oper×Nat)),(∀ j,acc.get j=mAt pre j)→masks acc pre.length L=some lm →
 lm.length=L.length ∧
 (∀ (n i:Nat) (o:Oper) (m:Nat),lm[n]? = some (i,o,m)→i=pre.length+n∧L[n]? = some o ∧
  (∀ e∈o.after,Region.binds .any e=true→e.on<pre.length+n∧m.testBit e.on=true∧∀ me,mAt (pre++lm) e.on=some me→∀ j,me.testBit j=true→m.testBit j=true) ∧
  (∀ j,m.testBit j=true→∃ e∈o.after,Region.binds .any e=true∧e.on<pre.length+n∧(j=e.on∨∃ me,mAt (pre++lm) e.on=some me∧me.testBit j=true)))
 | [],acc,pre,lm,_,h=>by
   simp [masks] at h;subst h
   exact ⟨rfl,fun n i o m h=>by simp at h⟩
 | o::r,acc,pre,lm,hacc,h=>by
   have hf:∀ s,o.after.toList.foldl (fun (s:Option Nat) e=>match Region.binds .any e with
    | true=>match s,acc.get e.on with|some s,some m=>some (s|||2 ^ e.on|||m)|_,_=>none
    | false=>s) s=o.after.toList.foldl (Y0n acc.get) s:=fun s=>rfl
   simp only [masks,hf] at h
   split at h
   ·rename_i m hm
    split at h
    ·rename_i l hl
     simp at h;subst h
     obtain ⟨g1,_,g3⟩:=Z9n acc.get _ _ _ hm
     have hpre:(pre++[(pre.length,o,m)]).length=pre.length+1:=by simp
     have hacc':∀ j,(acc.put pre.length m).get j=mAt (pre++[(pre.length,o,m)]) j:=fun j=>by
      rw [Tr.get_put]
      split
      ·rename_i h0;subst h0;simp [mAt]
      ·rename_i h0
       rw [hacc j]
       unfold mAt
       rcases Nat.lt_or_ge j pre.length with h1|h1
       ·rw [List.getElem?_append_left h1]
       ·rw [List.getElem?_eq_none h1,List.getElem?_eq_none (by rw [hpre];omega)]
     have ih:=Z7o r (acc.put pre.length m) (pre++[(pre.length,o,m)]) l hacc' (by rw [hpre];exact hl)
     rw [hpre] at ih
     refine ⟨by simp [ih.1],fun n i o' m' hn=>?_⟩
     cases n with
     | zero=>
       simp at hn
       obtain ⟨rfl,rfl,rfl⟩:=hn
       have hlt:∀ x me,acc.get x=some me→x<pre.length∧mAt (pre++(pre.length,o,m)::l) x=some me:=fun x me hx=>by
        rw [hacc x] at hx
        unfold mAt at hx ⊢
        rcases Nat.lt_or_ge x pre.length with h1|h1
        ·exact ⟨h1,by rw [List.getElem?_append_left h1];exact hx⟩
        ·rw [List.getElem?_eq_none h1] at hx;cases hx
       refine ⟨rfl,rfl,fun e he hb=>?_,fun j hj=>?_⟩
       ·obtain ⟨me,h1,h2,h3⟩:=g1 e (by simpa using he) hb
        obtain ⟨h4,h5⟩:=hlt _ _ h1
        exact ⟨h4,h2,fun me' hme=>by rw [h5] at hme;cases hme;exact h3⟩
       ·rcases g3 j hj with h1 | ⟨e,he,hb,h2⟩
        ·simp at h1
        ·obtain ⟨me,h3,_⟩:=g1 e he hb
         obtain ⟨h4,h5⟩:=hlt _ _ h3
         refine ⟨e,by simpa using he,hb,h4,?_⟩
         rcases h2 with h2 | ⟨me',h6,h7⟩
         ·exact .inl h2
         ·rw [h3] at h6;cases h6;exact .inr ⟨me,h5,h7⟩
     | succ n=>
       have:=ih.2 n i o' m' (by simpa using hn)
       rw [List.append_assoc,List.singleton_append] at this
       rw [show pre.length+(n+1)=pre.length+1+n by omega]
       exact ⟨this.1,by simpa using this.2.1,this.2.2⟩
    ·cases h
   ·cases h
theorem MS.of {ops:Array Oper} {lm:List (Nat×Oper×Nat)} (h:masks .nil 0 ops.toList=some lm):MS ops lm:=by
 have:=Z7o ops.toList .nil [] lm (fun j=>by simp [mAt,Tr.get_nil]) h
 simp only [List.length_nil,Nat.zero_add,List.nil_append] at this
 refine ⟨by rw [this.1,Array.length_toList],fun n i o m hn=>?_,fun n o m hn=>?_,fun n o m hn=>?_⟩
 ·have:=this.2 n i o m hn;exact ⟨this.1,by simpa using this.2.1⟩
 ·exact (this.2 n n o m hn).2.2.1
 ·exact (this.2 n n o m hn).2.2.2
/-! ### Orders -/
def Dset (D:Nat→Bool) (i:Nat):Nat→Bool:=fun j=>decide (j=i) || D j
def Rdy (ops:Array Oper) (D:Nat→Bool) (i:Nat):Prop := ∃ o,ops[i]? = some o∧D i=false∧∀ e∈o.after,Region.binds .any e=true→D e.on=true
def Y0o (ops:Array Oper):(Nat→Bool)→List Nat→Prop
 | D,[] => ∀ i,i<ops.size→D i=true
 | D,i::l=>Rdy ops D i∧Y0o ops (Dset D i) l
def cnt (D:Nat→Bool):Nat→Nat
 | 0=>0
 | n+1=>cnt D n+(match D n with|true=>0|false=>1)
theorem Y1u {D:Nat→Bool}:∀ {n:Nat},cnt D n=0→∀ i,i<n→D i=true
 | n+1,h,i,hi=>by
   simp only [cnt] at h
   rcases Nat.lt_or_ge i n with h1|h1
   ·exact Y1u (by omega) i h1
   ·have:i=n:=by omega
    subst this
    cases hd:D i with
    | true=>rfl
    | false=>rw [hd] at h;simp at h
theorem Y1v {D D':Nat→Bool}:∀ {n:Nat},(∀ i,i<n→D' i=D i)→cnt D' n=cnt D n
 | 0,_=>rfl
 | n+1,h=>by simp only [cnt];rw [Y1v fun i hi=>h i (by omega),h n (by omega)]
theorem Y4z {D:Nat→Bool} {i:Nat}:∀ {n:Nat},i<n→D i=false→cnt (Dset D i) n+1=cnt D n
 | n+1,hi,hd=>by
   simp only [cnt]
   rcases Nat.lt_or_ge i n with h1|h1
   ·have:=Y4z h1 hd
    have h2:Dset D i n=D n:=by simp [Dset];omega
    rw [h2];omega
   ·have:i=n:=by omega
    subst this
    have h2:Dset D i i=true:=by simp [Dset]
    have h3:cnt (Dset D i) i=cnt D i:=Y1v fun j hj=>by simp [Dset];omega
    rw [h2,h3,hd];simp
theorem Y6m {ops:Array Oper} (hup:∀ n o,ops[n]? = some o→∀ e∈o.after,Region.binds .any e=true→e.on<n):∀ (fuel t:Nat) (listed:Array Bool),listed.size=ops.size→cnt (fun j=>listed.getD j false) ops.size≤fuel →
 Y0o ops (fun j=>listed.getD j false) (Region.linearise.go .any ops fuel t listed []):=by
 intro fuel
 induction fuel with
 | zero=>
   intro t listed hs hc
   simp only [Region.linearise.go,List.reverse_nil,Y0o]
   exact Y1u (by omega)
 | succ fuel ih=>
   intro t listed hs hc
   simp only [Region.linearise.go]
   change Y0o ops _ (match (Region.ready .any ops listed)[t % (Region.ready .any ops listed).length]? with
    | some i=>Region.linearise.go .any ops fuel (t / (Region.ready .any ops listed).length) (listed.setIfInBounds i true) [i]
    | none=>[].reverse)
   cases hi:(Region.ready .any ops listed)[t % (Region.ready .any ops listed).length]? with
   | none=>
     simp only [List.reverse_nil,Y0o]
     have hnil:Region.ready .any ops listed=[]:=by
      cases hr:Region.ready .any ops listed with
      | nil=>rfl
      | cons x xs=>
        rw [hr] at hi
        have hlt:t % (x::xs).length<(x::xs).length:=Nat.mod_lt _ (by simp)
        rw [List.getElem?_eq_getElem hlt] at hi;cases hi
     intro i
     induction i using Nat.strongRecOn with
     | _ i ihi=>
       intro hlt
       cases hd:listed.getD i false with
       | true=>rfl
       | false=>
         exfalso
         have ho:ops[i]? = some ops[i]:=Array.getElem?_eq_getElem hlt
         have hmem:i∈Region.ready .any ops listed:=by
          rw [mem_ready]
          refine ⟨?_,ops[i],ho,fun e he hb=>?_⟩
          ·rw [←hd]
           have:i<listed.size:=by omega
           simp [Array.getD,this]
          ·have:=hup i _ ho e he hb
           exact ihi e.on this (by omega)
         rw [hnil] at hmem;cases hmem
   | some i=>
     have hmem:i∈Region.ready .any ops listed:=List.mem_of_getElem? hi
     obtain ⟨hun,o,ho,hall⟩:=mem_ready.1 hmem
     have hlt:i<ops.size:=(Array.getElem?_eq_some_iff.1 ho).1
     have hfalse:listed.getD i false=false:=by
      rw [←hun]
      have:i<listed.size:=by omega
      simp [Array.getD,this]
     have hset:(fun j=>(listed.setIfInBounds i true).getD j false)=Dset (fun j=>listed.getD j false) i:=by
      funext j
      by_cases hj:i=j
      ·subst hj
       have:i<listed.size:=by omega
       simp [Dset,this]
      ·rw [getD_set_ne false hj]
       simp [Dset,Ne.symm hj]
     simp only []
     rw [linearise_go_acc,List.reverse_singleton,List.singleton_append]
     refine ⟨⟨o,ho,hfalse,hall⟩,?_⟩
     have h9:=ih (t / (Region.ready .any ops listed).length) (listed.setIfInBounds i true) (by simp [hs]) (by
      rw [hset]
      have:=Y4z (D:=fun j=>listed.getD j false) hlt hfalse
      omega)
     rw [hset] at h9
     exact h9
theorem Y6n {ops:Array Oper} {lm:List (Nat×Oper×Nat)} (h:MS ops lm) (t:Nat):Y0o ops (fun _=>false) (Region.schedule true ops t):=by
 have hup:∀ n o,ops[n]? = some o→∀ e∈o.after,Region.binds .any e=true→e.on<n:=fun n o ho e he hb=>by
  have hlt:n<lm.length:=by rw [h.len];exact (Array.getElem?_eq_some_iff.1 ho).1
  have hg:=List.getElem?_eq_getElem hlt
  generalize lm[n]=x at hg
  obtain ⟨i,o',m⟩:=x
  obtain ⟨rfl,ho'⟩:=h.at_ n i o' m hg
  rw [ho] at ho';cases ho'
  exact (h.up _ _ _ hg e he hb).1
 have h0:(fun j=>(Array.replicate ops.size false).getD j false)=(fun _:Nat=>false):=by
  funext j
  simp [Array.getD]
 have h1:=Y6m hup ops.size t (Array.replicate ops.size false) (by simp) (by
  rw [h0]
  have:∀ n,cnt (fun _=>false) n=n:=fun n=>by induction n with|zero=>rfl|succ n ih=>simp [cnt,ih]
  rw [this];exact Nat.le_refl _)
 rw [h0] at h1
 simp only [Region.schedule,Bool.true_or,if_true]
 exact h1
end Go.Sy
namespace Go.Sy
variable {P:Program} {H H':Nat→Option Blk} {ev ev':Operand→Option AV} {id:Nat}
/-! ### An operation looks at its operands alone -/
theorem Z9o {l:List Operand} (h:∀ x∈l,ev x=ev' x):allGnd ev l=allGnd ev' l:=by
 unfold allGnd
 induction l with
 | nil=>rfl
 | cons x l ih=>simp only [List.all_cons];rw [h x (by simp),ih fun y hy=>h y (by simp [hy])]
theorem Z6O {o:Oper} (hs:∀ cs b,o.op ≠ .select cs b) (h:∀ x∈o.op.operands,ev x=ev' x):groundOp P ev o=groundOp P ev' o:=by
 unfold groundOp
 rw [Z9o (fun x hx=>h x (by simpa using hx))]
 rw [execOp_congr o hs fun x hx=>show toVal ev x=toVal ev' x by unfold toVal;rw [h x hx]]
theorem Z6E:∀ {l:List Operand},(∀ x∈l,ev x=ev' x)→evL ev l=evL ev' l
 | [],_=>rfl
 | x::l,h=>by simp only [evL];rw [h x (by simp),Z6E fun y hy=>h y (by simp [hy])]
theorem Z3b:∀ {l:List (Nat×Operand)},(∀ x∈l,ev x.2=ev' x.2)→evPairs ev l=evPairs ev' l
 | [],_=>rfl
 | (i,x)::l,h=>by simp only [evPairs];rw [h (i,x) (by simp),Z3b fun y hy=>h y (by simp [hy])]
theorem Z5i {d:Nat} {x:Option Operand} (h:∀ y,x=some y→ev y=ev' y):optInt ev d x=optInt ev' d x:=by
 cases x with
 | none=>rfl
 | some y=>simp only [optInt];rw [h y rfl]
theorem Y0p {d:Nat} {y x:Option Operand} (h:∀ z,x=some z→ev z=ev' z):mxInt ev d y x=mxInt ev' d y x:=by
 cases x with
 | none=>cases y<;>rfl
 | some z=>cases y<;>simp only [mxInt];rw [h z rfl]
theorem Z3c {args:Array Operand} {i:Nat} (h:∀ x∈args,ev x=ev' x):(args[i]?).bind ev=(args[i]?).bind ev':=by
 cases hi:args[i]? with
 | none=>rfl
 | some x=>exact h x (Array.mem_of_getElem? hi)
theorem Z5I {o:Oper} (h:∀ x∈o.op.operands,ev x=ev' x):fl P H ev o id o.op=fl P H ev' o id o.op:=by
 obtain ⟨dst,op,ty,pos,aft,gd⟩:=o
 have hg:(∀ cs b,op ≠ .select cs b)→groundOp P ev ⟨dst,op,ty,pos,aft,gd⟩=groundOp P ev' ⟨dst,op,ty,pos,aft,gd⟩:=fun hs=>Z6O hs h
 cases op<;>try rfl
 case move x=>exact congrArg vOnly (h x (by simp [Op.operands]))
 case assign x=>exact congrArg vOnly (h x (by simp [Op.operands]))
 case pick c a b=>
  show flPick ev a b (ev c)=flPick ev' a b (ev' c)
  rw [h c (by simp [Op.operands])]
  unfold flPick
  rw [h a (by simp [Op.operands]),h b (by simp [Op.operands])]
 case box e x=>exact congrArg (flBox e id) (h x (by simp [Op.operands]))
 case build t parts=>
  show flBuild P (evPairs ev parts.toList) _ _=flBuild P (evPairs ev' parts.toList) _ _
  rw [Z3b fun x hx=>h x.2 (by simp [Op.operands];exact ⟨x.1,by simpa using hx⟩)]
 case buildSlice t n parts=>
  show flBuildSlice P n id (evPairs ev parts.toList) _=flBuildSlice P n id (evPairs ev' parts.toList) _
  rw [Z3b fun x hx=>h x.2 (by simp [Op.operands];exact ⟨x.1,by simpa using hx⟩)]
 case load t a=>exact congrArg (flLoad P H t) (h a (by simp [Op.operands]))
 case nilCheck x=>
  show flNil P ev _ (ev x)=flNil P ev' _ (ev' x)
  rw [h x (by simp [Op.operands])]
  unfold flNil
  rw [hg (fun _ _=>by simp)]
 case binOp op t x y yt=>
  show flBin P ev _ op t (ev x) (ev y)=flBin P ev' _ op t (ev' x) (ev' y)
  rw [h x (by simp [Op.operands]),h y (by simp [Op.operands])]
  unfold flBin
  rw [hg (fun _ _=>by simp)]
 case unOp op t x=>exact congrArg vConv (hg (fun _ _=>by simp))
 case convert s d x=>
  show flConvert P H ev _ s d (ev x)=flConvert P H ev' _ s d (ev' x)
  rw [h x (by simp [Op.operands])]
  unfold flConvert
  rw [hg (fun _ _=>by simp)]
 case makeFunc f a b=>
  show flMakeFunc ev a b f=flMakeFunc ev' a b f
  unfold flMakeFunc
  rw [Z6E fun x hx=>h x (by simp [Op.operands];right;simpa using hx)]
 case makeSlice t l c=>
  show flMake P id _ (intA (ev l)) (intA (ev c))=flMake P id _ (intA (ev' l)) (intA (ev' c))
  rw [h l (by simp [Op.operands]),h c (by simp [Op.operands])]
 case slice t x lo hi mx=>
  show flSlice P ev _ t lo hi mx (ev x)=flSlice P ev' _ t lo hi mx (ev' x)
  rw [h x (by simp [Op.operands])]
  unfold flSlice
  simp only [Z5i (ev:=ev) (ev':=ev') (x:=lo) fun y hy=>h y (by simp [Op.operands,hy]),Z5i (ev:=ev) (ev':=ev') (x:=hi) fun y hy=>h y (by simp [Op.operands,hy]),
   Y0p (ev:=ev) (ev':=ev') (y:=hi) (x:=mx) fun y hy=>h y (by simp [Op.operands,hy]),hg (fun _ _=>by simp)]
 case fieldAddr s x f=>exact congrArg (fun a=>flFieldAddr P f a _) (h x (by simp [Op.operands]))
 case field t x f=>exact congrArg (fun a=>flField P f a _) (h x (by simp [Op.operands]))
 case indexAddr t x ix=>
  show flIndexAddr P (ev x) _ (intA (ev ix))=flIndexAddr P (ev' x) _ (intA (ev' ix))
  rw [h x (by simp [Op.operands]),h ix (by simp [Op.operands])]
 case index t x ix=>
  show flIndex P ev _ (ev x) _ (intA (ev ix))=flIndex P ev' _ (ev' x) _ (intA (ev' ix))
  rw [h x (by simp [Op.operands]),h ix (by simp [Op.operands])]
  unfold flIndex
  rw [hg (fun _ _=>by simp)]
 case lookup t x ix ok=>
  show flLookup P H ok (ev x) _ (ev ix)=flLookup P H ok (ev' x) _ (ev' ix)
  rw [h x (by simp [Op.operands]),h ix (by simp [Op.operands])]
 case range t x=>exact congrArg (fun a=>flRange id a _) (h x (by simp [Op.operands]))
 case extract x i=>exact congrArg (flExtract i) (h x (by simp [Op.operands]))
 case call c=>
  obtain ⟨callee,args,ts⟩:=c
  cases callee with
  | builtin b=>
    have ha:∀ x∈args,ev x=ev' x:=fun x hx=>h x (by simp [Op.operands,Call.operands,hx])
    show flBuiltin P H ev _ args ts b=flBuiltin P H ev' _ args ts b
    unfold flBuiltin
    split
    ·unfold flLen;rw [Z3c ha,hg (fun _ _=>by simp)]
    ·unfold flCap;rw [Z3c ha,hg (fun _ _=>by simp)]
    ·rw [hg (fun _ _=>by simp)]
    ·rw [hg (fun _ _=>by simp)]
    ·rfl
  | _=>rfl
theorem fl_H {o:Oper} (hq:quietB ev o=true) (hl:∀ t a,o.op ≠ .load t a):fl P H ev o id o.op=fl P H' ev o id o.op:=by
 obtain ⟨dst,op,ty,pos,aft,gd⟩:=o
 cases op<;>try rfl
 case load t a=>exact absurd rfl (hl t a)
 case lookup=>simp [quietB] at hq
 case convert s d x=>
  show flConvert P H ev _ s d (ev x)=flConvert P H' ev _ s d (ev x)
  simp only [quietB] at hq
  unfold flConvert
  split
  ·rename_i hx;rw [hx] at hq;simp at hq
  ·rfl
 case call c=>
  obtain ⟨callee,args,ts⟩:=c
  cases callee with
  | builtin b=>
    show flBuiltin P H ev _ args ts b=flBuiltin P H' ev _ args ts b
    unfold flBuiltin
    split
    ·simp only [quietB] at hq
     unfold flLen
     split
     ·rfl
     ·rename_i hx _
      rw [hx] at hq;simp at hq
     ·rfl
     ·rfl
    ·rfl
    ·rfl
    ·rfl
    ·rfl
  | _=>rfl
end Go.Sy
namespace Go.Sy
variable {P:Program} {e:Env} {w w':World} {hp hp':Tr Blk} {nx nx':Nat}
theorem AV.beq0_eq {a b:AV} (h:a.beq0 b=true):a=b:=by
 unfold AV.beq0 at h
 split at h
 ·simp only [Bool.and_eq_true,decide_eq_true_eq] at h;obtain ⟨rfl,rfl⟩:=h;rfl
 ·have:=eq_of_beq h;subst this;rfl
 ·rename_i s t
  simp only [decide_eq_true_eq] at h
  have:s.data=t.data:=Array.ext' h
  cases s;cases t;cases this;rfl
 ·rfl
 ·simp only [Bool.and_eq_true,Nat.beq_eq] at h;obtain ⟨rfl,rfl⟩:=h;rfl
 ·rfl
 ·simp only [Bool.and_eq_true,Nat.beq_eq] at h;obtain ⟨rfl,rfl⟩:=h;rfl
 ·simp only [Bool.and_eq_true,Nat.beq_eq] at h;obtain ⟨⟨⟨rfl,rfl⟩,rfl⟩,rfl⟩:=h;rfl
 ·simp only [Nat.beq_eq] at h;subst h;rfl
 ·cases h
theorem Y1w:∀ {l m:List AV},beqL0 l m=true→l=m
 | [],[],_=>rfl
 | [],_::_,h=>by simp [beqL0] at h
 | _::_,[],h=>by simp [beqL0] at h
 | a::l,b::m,h=>by
   simp only [beqL0,Bool.and_eq_true] at h
   rw [AV.beq0_eq h.1,Y1w h.2]
theorem AV.beq_eq {a b:AV} (h:a.beq b=true):a=b:=by
 unfold AV.beq at h
 split at h
 ·simp only [Bool.and_eq_true,Nat.beq_eq] at h
  obtain ⟨rfl,h2⟩:=h
  rw [Y1w h2]
 ·exact AV.beq0_eq h
theorem Y4A:∀ {l m:List AV},beqL l m=true→l=m
 | [],[],_=>rfl
 | [],_::_,h=>by simp [beqL] at h
 | _::_,[],h=>by simp [beqL] at h
 | a::l,b::m,h=>by
   simp only [beqL,Bool.and_eq_true] at h
   rw [AV.beq_eq h.1,Y4A h.2]
theorem Z7p {H:Nat→Option Blk}:∀ {l:List (Nat×Nat×Nat×List AV)},seenOk H l=true→∀ i b off cs,(i,b,off,cs)∈l→loadC H b off cs.length=some cs
 | [],_,_,_,_,_,h=>by cases h
 | (i',b',off',cs')::l,h,i,b,off,cs,hm=>by
   simp only [seenOk,Bool.and_eq_true] at h
   rcases List.mem_cons.1 hm with heq|hm
   ·simp at heq
    obtain ⟨rfl,rfl,rfl,rfl⟩:=heq
    have h1:=h.1
    split at h1
    ·rename_i l' hl
     rw [hl,Y4A h1]
    ·cases h1
   ·exact Z7p h.2 i b off cs hm
/-! ### What has been done of a region -/
def Z2Y (ops:Array Oper) (i:Nat):Option Tmp:=(ops[i]?).bind (·.dst)
def look (ops:Array Oper) (g0:Nat→Option AV):List (Nat×AV)→Nat→Option AV
 | [],t=>g0 t
 | (i,v)::S,t=>if Z2Y ops i=some t then some v else look ops g0 S t
def only (D:Nat→Bool) (S:List (Nat×AV)):List (Nat×AV):=S.filter (fun x=>D x.1)
theorem Z4x {ops:Array Oper} {g0:Nat→Option AV} {D:Nat→Bool} {t:Nat}:∀ {L:List (Nat×AV)},(∀ x∈L,Z2Y ops x.1=some t→D x.1=true)→look ops g0 (only D L) t=look ops g0 L t
 | [],_=>rfl
 | (i,v)::L,h=>by
   have ih:=Z4x (ops:=ops) (g0:=g0) (D:=D) (t:=t) (L:=L) fun x hx=>h x (by simp [hx])
   unfold only at ih ⊢
   rw [List.filter_cons]
   split
   ·simp only [look];rw [ih]
   ·rename_i hd
    have:Z2Y ops i≠some t:=fun h0=>hd (h (i,v) (by simp) h0)
    rw [ih];simp only [look];rw [if_neg this]
theorem Z6F {ops:Array Oper} {g0:Nat→Option AV} {t:Nat} {R:List (Nat×AV)}:∀ {L:List (Nat×AV)},(∀ x∈L,Z2Y ops x.1≠some t)→look ops g0 (L++R) t=look ops g0 R t
 | [],_=>rfl
 | (i,v)::L,h=>by
   have ih:=Z6F (ops:=ops) (g0:=g0) (t:=t) (R:=R) (L:=L) fun x hx=>h x (by simp [hx])
   rw [List.cons_append]
   simp only [look]
   rw [if_neg (h (i,v) (by simp)),ih]
theorem Z6G (D:Nat→Bool) (L R:List (Nat×AV)):only D (L++R)=only D L++only D R:=List.filter_append ..
def Rel (ops:Array Oper) (i:Nat) (o:Oper) (t:Nat):Prop:=t∈o.looksAt ops∨Z2Y ops i=some t
inductive Cert (P:Program) (e:Env) (hp:Tr Blk) (lo hi:Nat) (live:Bool) (seen:List (Nat×Nat×Nat×List AV)) (A:Nat→Option Nat) (ops:Array Oper) (i:Nat) (g:Nat→Option AV) (o:Oper):AV→Prop
 | skip (h:Z1M ops g o=some false):Cert P e hp lo hi live seen A ops i g o (.tup [])
 | load {t:TypeId} {a:Operand} {b off:Nat} {l:List AV} {v:AV} (ho:o.op=.load t a) (hw:Z1M ops g o=some true) (ha:evF g a=some (.ptr b off))
  (hv:(isAggT P t=some true∧szT P t=some l.length∧v=.agg l)∨(isAggT P t=some false∧l=[v])) (hs:(i,b,off,l)∈seen) (hl:live=true→loadC hp.get b off l.length=some l) :
  Cert P e hp lo hi live seen A ops i g o v
 | op {id:Nat} {v:AV} (hw:Z1M ops g o=some true) (hf:∀ H,fl P H (evF g) o id o.op=some (v,none)):Cert P e hp lo hi live seen A ops i g o v
 | new {id:Nat} {v:AV} {bk:Blk} (hw:Z1M ops g o=some true) (hf:∀ H,fl P H (evF g) o id o.op=some (v,some bk)) (hA:A i=some id) (hb:hp.get id=some bk) (hr:e.ρ id=none) (hk:e.κ id=none) (h1:lo≤id) (h2:id<hi) :
  Cert P e hp lo hi live seen A ops i g o v
structure DR (P:Program) (e:Env) (hp:Tr Blk) (lo hi:Nat) (live:Bool) (nt:Nat) (tm:Tr AV) (ops:Array Oper) (d:Dr) (l:List Nat) (tmps:Array Value)
 (lm:List (Nat×Oper×Nat)) (g0:Nat→Option AV) (A:Nat→Option Nat) (S:List (Nat×AV)) (D:Nat→Bool):Prop where
 ms:MS ops lm
 ap:apartB ops lm=true
 sched:Y0o ops D l
 nod:(S.map (·.1)).Nodup
 ord:∀ pre i v post,S=pre++(i,v)::post→∃ o m,lm[i]? = some (i,o,m)∧∀ j,m.testBit j=true→j∈post.map (·.1)
 done:∀ j,d.done.testBit j=true↔j∈S.map (·.1)
 todo:∀ x,x∈d.todo↔x∈lm∧x.1 ∉ S.map (·.1)
 sub:∀ i,D i=true→i∈S.map (·.1)
 down:∀ i o m,D i=true→lm[i]? = some (i,o,m)→∀ j,m.testBit j=true→D j=true
 tms:∀ t,tm.get t=look ops g0 S t
 size:tmps.size=nt
 gr:GR e (look ops g0 (only D S)) tmps
 dst:∀ x∈S,∀ t,Z2Y ops x.1=some t→t<nt
 ainj:∀ i j id,A i=some id→A j=some id→i=j
 alt:∀ i id,A i=some id→id<hi
 cert:∀ pre i v post,S=pre++(i,v)::post→D i=false→∀ o,ops[i]? = some o→Cert P e hp lo hi live d.seen A ops i (look ops g0 post) o v
section
variable {lo hi nt:Nat} {live:Bool} {tm:Tr AV} {ops:Array Oper} {d:Dr} {l:List Nat} {tmps:Array Value} {lm:List (Nat×Oper×Nat)} {g0:Nat→Option AV} {A:Nat→Option Nat} {S:List (Nat×AV)} {D:Nat→Bool}
theorem Z3d (ms:MS ops lm) (ap:apartB ops lm=true) {i j m n:Nat} {oi oj:Oper} (hi:lm[i]? = some (i,oi,m)) (hj:lm[j]? = some (j,oj,n)) (hne:j≠i) {t:Nat} (hr:Rel ops i oi t) (hd:Z2Y ops j=some t) :
 m.testBit j=true∨n.testBit i=true:=by
 have hoi:=(ms.at_ _ _ _ _ hi).2
 have hoj:=(ms.at_ _ _ _ _ hj).2
 have hdj:oj.dst=some t:=by simpa [Z2Y,hoj] using hd
 unfold apartB at ap
 rw [List.all_eq_true] at ap
 rcases Nat.lt_or_ge i j with hlt|hge
 ·have h1:=List.all_eq_true.1 (ap _ (List.mem_of_getElem? hi)) _ (List.mem_of_getElem? hj)
  simp only [Bool.or_eq_true,Bool.not_eq_true'] at h1
  rcases h1 with (h1|h1)|h1
  ·rw [show Nat.blt i j=true by simpa [Nat.blt_eq] using hlt] at h1;cases h1
  ·exact .inr h1
  ·exfalso
   obtain ⟨a1,a2,a3⟩:=Oper.apart_spec h1
   rcases hr with hr|hr
   ·exact a3 t hdj hr
   ·have:oi.dst=some t:=by simpa [Z2Y,hoi] using hr
    exact a2 t this hdj
 ·have hlt:j<i:=by omega
  have h1:=List.all_eq_true.1 (ap _ (List.mem_of_getElem? hj)) _ (List.mem_of_getElem? hi)
  simp only [Bool.or_eq_true,Bool.not_eq_true'] at h1
  rcases h1 with (h1|h1)|h1
  ·rw [show Nat.blt j i=true by simpa [Nat.blt_eq] using hlt] at h1;cases h1
  ·exact .inl h1
  ·exfalso
   obtain ⟨a1,a2,a3⟩:=Oper.apart_spec h1
   rcases hr with hr|hr
   ·exact a1 t hdj hr
   ·have:oi.dst=some t:=by simpa [Z2Y,hoi] using hr
    exact a2 t hdj this
theorem DR.lm_at (h:DR P e hp lo hi live nt tm ops d l tmps lm g0 A S D) {x:Nat×AV} (hx:x∈S):∃ o m,lm[x.1]? = some (x.1,o,m):=by
 obtain ⟨pre,post,rfl⟩:=List.append_of_mem hx
 obtain ⟨i,v⟩:=x
 obtain ⟨o,m,h1,_⟩:=h.ord pre i v post rfl
 exact ⟨o,m,h1⟩
theorem DR.mask_sub (h:DR P e hp lo hi live nt tm ops d l tmps lm g0 A S D) {i m:Nat} {o:Oper} (hi:lm[i]? = some (i,o,m)) (hr:Rdy ops D i):∀ j,m.testBit j=true→D j=true:=by
 intro j hj
 obtain ⟨o',ho',_,hall⟩:=hr
 have:=(h.ms.at_ _ _ _ _ hi).2
 rw [ho'] at this;cases this
 obtain ⟨e0,he,hb,hlt,hcase⟩:=h.ms.down i o m hi j hj
 have hde:=hall e0 he hb
 rcases hcase with rfl | ⟨me,hme,hmj⟩
 ·exact hde
 ·unfold mAt at hme
  cases hlm:lm[e0.on]? with
  | none=>rw [hlm] at hme;cases hme
  | some x=>
    obtain ⟨a,b,c⟩:=x
    rw [hlm] at hme
    simp at hme;subst hme
    obtain ⟨rfl,_⟩:=h.ms.at_ _ _ _ _ hlm
    exact h.down _ _ _ hde hlm j hmj
theorem DR.writers (h:DR P e hp lo hi live nt tm ops d l tmps lm g0 A S D) {pre post:List (Nat×AV)} {i m:Nat} {v:AV} {o:Oper} (hS:S=pre++(i,v)::post) (hi:lm[i]? = some (i,o,m)) (hD:D i=false)
 (hm:∀ j,m.testBit j=true→D j=true) {t:Nat} (hr:Rel ops i o t) :
 (∀ x∈pre,Z2Y ops x.1=some t→D x.1=false)∧(∀ x∈post,Z2Y ops x.1=some t→D x.1=true):=by
 have hnd:=h.nod
 rw [hS,List.map_append,List.map_cons] at hnd
 obtain ⟨o',m',hlm',hmp⟩:=h.ord pre i v post hS
 rw [hi] at hlm';simp at hlm';obtain ⟨rfl,rfl⟩:=hlm'
 have hnot_post:i ∉ post.map (·.1):=(List.nodup_cons.1 (List.nodup_append.1 hnd).2.1).1
 constructor
 ·intro x hx hd
  have hxS:x∈S:=by rw [hS];simp [hx]
  obtain ⟨ox,mx,hlx⟩:=h.lm_at hxS
  have hne:x.1≠i:=fun h0=>(List.nodup_append.1 hnd).2.2 x.1 (List.mem_map_of_mem hx) i (by simp) h0
  rcases Z3d h.ms h.ap hi hlx hne hr hd with h1|h1
  ·exfalso
   have:=hmp _ h1
   exact (List.nodup_append.1 hnd).2.2 x.1 (List.mem_map_of_mem hx) x.1 (by simp [this]) rfl
  ·cases hdx:D x.1 with
   | false=>rfl
   | true=>exact absurd (h.down _ _ _ hdx hlx i h1) (by rw [hD];simp)
 ·intro x hx hd
  have hxS:x∈S:=by rw [hS];simp [hx]
  obtain ⟨ox,mx,hlx⟩:=h.lm_at hxS
  have hne:x.1≠i:=fun h0=>hnot_post (h0 ▸ List.mem_map_of_mem hx)
  rcases Z3d h.ms h.ap hi hlx hne hr hd with h1|h1
  ·exact hm _ h1
  ·exfalso
   obtain ⟨p1,p2,rfl⟩:=List.append_of_mem hx
   obtain ⟨xi,xv⟩:=x
   obtain ⟨o2,m2,hl2,hm2⟩:=h.ord (pre++(i,v)::p1) xi xv p2 (by rw [hS];simp)
   rw [hlx] at hl2;simp at hl2;obtain ⟨rfl,rfl⟩:=hl2
   have:=hm2 _ h1
   exact hnot_post (by simp at this ⊢;obtain ⟨a,ha⟩:=this;exact .inr (.inr ⟨a,ha⟩))
theorem DR.split (h:DR P e hp lo hi live nt tm ops d l tmps lm g0 A S D) {pre post:List (Nat×AV)} {i:Nat} {v:AV} (hS:S=pre++(i,v)::post) (hD:D i=false):only D S=only D pre++only D post:=by
 rw [hS,Z6G]
 congr 1
 unfold only
 rw [List.filter_cons,if_neg (by simp [hD])]
theorem DR.sees (h:DR P e hp lo hi live nt tm ops d l tmps lm g0 A S D) {pre post:List (Nat×AV)} {i m:Nat} {v:AV} {o:Oper} (hS:S=pre++(i,v)::post) (hi:lm[i]? = some (i,o,m)) (hD:D i=false)
 (hm:∀ j,m.testBit j=true→D j=true) {t:Nat} (hr:Rel ops i o t):look ops g0 (only D S) t=look ops g0 post t:=by
 obtain ⟨h1,h2⟩:=h.writers hS hi hD hm hr
 rw [h.split hS hD,Z6F,Z4x h2]
 intro x hx hd
 unfold only at hx
 rw [List.mem_filter] at hx
 have:=h1 x hx.1 hd
 rw [this] at hx;exact absurd hx.2 (by simp)
theorem Z9p {o:Oper} {x:Operand} (hx:x∈o.op.operands) {t:Tmp} (h:x=.tmp t):t∈o.looksAt ops:=by
 subst h
 exact List.mem_append_left _ (List.mem_filterMap.2 ⟨.tmp t,by simpa using hx,rfl⟩)
theorem Z9q {g g':Nat→Option AV} {x:Operand} (h:∀ t,x=.tmp t→g t=g' t):evF g x=evF g' x:=by
 cases x with
 | tmp t=>exact h t rfl
 | _=>rfl
theorem Z4y {g g':Nat→Option AV} {o:Oper} (h:∀ t∈o.looksAt ops,g t=g' t):Z1M ops g o=Z1M ops g' o:=by
 unfold Z1M
 cases hg:o.guard with
 | none=>rfl
 | some jw=>
   obtain ⟨j,want⟩:=jw
   have:Z3S ops g j=Z3S ops g' j:=by
    unfold Z3S
    cases hd:(ops[j]?).bind (·.dst) with
    | none=>rfl
    | some dd=>
      simp only
      rw [h dd (by simp [Oper.looksAt,hg,hd])]
   simp only [this]
end
end Go.Sy
namespace Go.Sy
variable {P:Program} {e:Env} {w w':World} {hp hp':Tr Blk} {nx nx':Nat}
variable {lo hi nt:Nat} {live:Bool} {tm:Tr AV} {ops:Array Oper} {d:Dr} {l:List Nat} {tmps:Array Value} {lm:List (Nat×Oper×Nat)} {g0:Nat→Option AV} {A:Nat→Option Nat} {S:List (Nat×AV)} {D:Nat→Bool}
theorem Y1x {i:Nat} {v:AV} {t:Nat} {R:List (Nat×AV)} (h:Z2Y ops i≠some t):∀ L:List (Nat×AV),look ops g0 (L++(i,v)::R) t=look ops g0 (L++R) t
 | []=>by simp only [List.nil_append,look];rw [if_neg h]
 | (j,u)::L=>by simp only [List.cons_append,look];rw [Y1x h L]
theorem Cert.mono {e':Env} {seen:List (Nat×Nat×Nat×List AV)} {i:Nat} {g:Nat→Option AV} {o:Oper} {v:AV} (h:Cert P e hp lo hi live seen A ops i g o v)
 (hid:∀ id,A i=some id→e'.ρ id=e.ρ id∧e'.κ id=e.κ id):Cert P e' hp lo hi live seen A ops i g o v:=by
 cases h with
 | skip h=>exact .skip h
 | load ho hw ha hv hs hl=>exact .load ho hw ha hv hs hl
 | op hw hf=>exact .op hw hf
 | new hw hf hA hb hr hk h1 h2=>
   obtain ⟨h3,h4⟩:=hid _ hA
   exact .new hw hf hA hb (h3.trans hr) (h4.trans hk) h1 h2
theorem Z5j (tmps:Array Value) (dst:Option Tmp) (v:Value):(Z1N tmps dst v).size=tmps.size:=by cases dst<;>simp [Z1N]
theorem Z5k {tmps:Array Value} {t:Tmp} {v:Value} (h:t<tmps.size):(Z1N tmps (some t) v)[t]? = some v:=by simp [Z1N,h]
theorem Z4z {tmps:Array Value} {dst:Option Tmp} {t:Tmp} {v:Value} (h:dst≠some t):(Z1N tmps dst v)[t]? = tmps[t]? := by
 cases dst with
 | none=>rfl
 | some d=>simp only [Z1N];exact Array.getElem?_setIfInBounds_ne fun h0=>h (by rw [h0])
theorem DR.put {i m:Nat} (h:DR P e hp lo hi live nt tm ops d (i::l) tmps lm g0 A S D) {o:Oper} {pre post:List (Nat×AV)} {v:AV} {v':Value} {e':Env} (hS:S=pre++(i,v)::post) (hli:lm[i]? = some (i,o,m))
 (hle:e.le e') (hv:VR e' v v') (hid:∀ j id,j≠i→A j=some id→e'.ρ id=e.ρ id∧e'.κ id=e.κ id) :
 DR P e' hp lo hi live nt tm ops d l (Z1N tmps o.dst v') lm g0 A S (Dset D i):=by
 obtain ⟨hrdy,hsched⟩:=h.sched
 have hD:D i=false:=by obtain ⟨_,_,hD,_⟩:=hrdy;exact hD
 have hm:=h.mask_sub hli hrdy
 have hoi:=(h.ms.at_ _ _ _ _ hli).2
 have hdst:Z2Y ops i=o.dst:=by simp [Z2Y,hoi]
 have hnd:=h.nod
 rw [hS,List.map_append,List.map_cons] at hnd
 have hpre:∀ x∈pre,x.1≠i:=fun x hx h0=>(List.nodup_append.1 hnd).2.2 x.1 (List.mem_map_of_mem hx) i (by simp) h0
 have hpost:∀ x∈post,x.1≠i:=fun x hx h0=>(List.nodup_cons.1 (List.nodup_append.1 hnd).2.1).1 (by have h9:x.1∈post.map (·.1):=List.mem_map_of_mem hx;rw [h0] at h9;exact h9)
 have hsame:∀ L:List (Nat×AV),(∀ x∈L,x.1≠i)→only (Dset D i) L=only D L:=fun L hL=>by
  unfold only
  apply List.filter_congr
  intro x hx
  simp [Dset,hL x hx]
 have honly:only (Dset D i) S=only D pre++(i,v)::only D post:=by
  rw [hS,Z6G,hsame pre hpre]
  congr 1
  rw [show only (Dset D i) ((i,v)::post)=(i,v)::only (Dset D i) post by unfold only;rw [List.filter_cons,if_pos (by simp [Dset])],hsame post hpost]
 refine ⟨h.ms,h.ap,hsched,h.nod,h.ord,h.done,h.todo,?_,?_,h.tms,by rw [Z5j,h.size],?_,h.dst,h.ainj,h.alt,?_⟩
 ·intro j hj
  by_cases h0:j=i
  ·subst h0;rw [hS];simp
  ·exact h.sub j (by simpa [Dset,h0] using hj)
 ·intro j oj mj hj hlj b hb
  by_cases h0:j=i
  ·subst h0
   rw [hli] at hlj;simp at hlj;obtain ⟨rfl,rfl⟩:=hlj
   simp [Dset,hm b hb]
  ·simp [Dset,h.down j oj mj (by simpa [Dset,h0] using hj) hlj b hb]
 ·intro t a ha
  rw [honly] at ha
  by_cases ht:Z2Y ops i=some t
  ·obtain ⟨h1,_⟩:=h.writers hS hli hD hm (.inr ht)
   rw [Z6F (L:=only D pre) (fun x hx hd=>by
    unfold only at hx;rw [List.mem_filter] at hx
    have:=h1 x hx.1 hd;rw [this] at hx;exact absurd hx.2 (by simp))] at ha
   simp only [look] at ha
   rw [if_pos ht] at ha
   cases ha
   have hlt:t<nt:=h.dst (i,v) (by rw [hS];simp) t ht
   rw [hdst] at ht
   rw [ht]
   exact ⟨v',Z5k (by rw [h.size];exact hlt),hv⟩
  ·rw [Y1x ht,←h.split hS hD] at ha
   obtain ⟨u,hu,hr⟩:=h.gr t a ha
   rw [hdst] at ht
   exact ⟨u,by rw [Z4z ht];exact hu,hr.mono hle⟩
 ·intro pre2 j u post2 hS2 hDj oj hoj
  have hne:j≠i:=fun h0=>by subst h0;simp [Dset] at hDj
  have hDj':D j=false:=by simpa [Dset,hne] using hDj
  exact (h.cert pre2 j u post2 hS2 hDj' oj hoj).mono fun id hA=>hid j id hne hA
theorem DR.comes {fr:Frame} {cs:List Frame} {k:List Item} {i:Nat} (h:DR P e hp lo hi true nt tm ops d (i::l) fr.tmps lm g0 A S D) (hSR:SR P e hp nx w) (hm:fr.mode=.run) (ht:fr.todo=.inRegion ops (i::l)::k)
 (hmem:i∈S.map (·.1)) :
 ∃ e' tmps' w',step P (lone fr cs w)=.next (lone { fr with tmps:=tmps',todo:=.inRegion ops l::k } cs w')∧DR P e' hp lo hi true nt tm ops d l tmps' lm g0 A S (Dset D i)∧SR P e' hp nx w'∧Goes lo e hp nx w e' hp nx w':=by
 obtain ⟨⟨i',v⟩,hx,rfl⟩:=List.mem_map.1 hmem
 obtain ⟨pre,post,hS⟩:=List.append_of_mem hx
 dsimp only at *
 obtain ⟨o,m,hlm⟩:=h.lm_at hx
 dsimp only at hlm
 have ho:=(h.ms.at_ _ _ _ _ hlm).2
 have hrdy:=h.sched.1
 have hD:D i'=false:=by obtain ⟨_,_,hD,_⟩:=hrdy;exact hD
 have hmask:=h.mask_sub hlm hrdy
 have hsees:∀ t∈o.looksAt ops,look ops g0 (only D S) t=look ops g0 post t:=fun t ht=>h.sees hS hlm hD hmask (.inl ht)
 have hevs:∀ x∈o.op.operands,evF (look ops g0 (only D S)) x=evF (look ops g0 post) x:=fun x hx=>Z9q fun t h0=>hsees t (Z9p hx h0)
 have hwant:Z1M ops (look ops g0 (only D S)) o=Z1M ops (look ops g0 post) o:=Z4y hsees
 have hev:=h.gr.ev (fr:=fr)
 have hc:=h.cert pre i' v post hS hD o ho
 -- the operation yields a value in the very world
 have value:∀ v',Z1M ops (look ops g0 post) o=some true→(∀ c,o.op ≠ .defer c)→(execOp fr.eval o).run P w=.ok (.value v') w→VR e v v' →
  ∃ e' tmps' w',step P (lone fr cs w)=.next (lone { fr with tmps:=tmps',todo:=.inRegion ops l::k } cs w')∧DR P e' hp lo hi true nt tm ops d l tmps' lm g0 A S (Dset D i')∧SR P e' hp nx w'∧Goes lo e hp nx w e' hp nx w':=fun v' hw hd hr hv=>by
  refine ⟨e,_,w,?_,h.put hS hlm (.refl e) hv (fun _ _ _ _=>⟨rfl,rfl⟩),hSR,.refl⟩
  rw [Z42 hm ho (h.gr.wanted (hwant.trans hw)) hd ht (.inl rfl) hr,Z1o ho ht]
 cases hc with
 | skip hw=>
   refine ⟨e,_,w,?_,h.put hS hlm (.refl e) Z5H (fun _ _ _ _=>⟨rfl,rfl⟩),hSR,.refl⟩
   rw [Z9l hm ho (h.gr.wanted (hwant.trans hw)) ht,Z1o ho ht]
 | load hop hw ha hv hs hl=>
   rename_i t a b off cs'
   have hload:=hl rfl
   have hfl:fl P hp.get (evF (look ops g0 (only D S))) o 0 o.op=some (v,none):=by
    rw [Z5I hevs,hop]
    show flLoad P hp.get t (evF (look ops g0 post) a)=_
    rw [ha]
    show vOnly (loadV P hp.get t b off)=_
    rcases hv with ⟨h1,h2,rfl⟩ | ⟨h1,rfl⟩
    ·simp only [loadV,h1,h2,hload,vOnly]
    ·simp only [loadV,h1]
     have:loadC hp.get b off 1=some [v]:=hload
     simp only [this,vOnly]
   obtain ⟨v',h1,h2⟩:=Z5G hev hSR.hr o v none hfl
   exact value v' hw (fun c h0=>by rw [hop] at h0;cases h0) h1 h2
 | op hw hf=>
   rename_i id
   have hfl:fl P hp.get (evF (look ops g0 (only D S))) o id o.op=some (v,none):=by rw [Z5I hevs];exact hf _
   obtain ⟨v',h1,h2⟩:=Z5G hev hSR.hr o v none hfl
   exact value v' hw (fun c h0=>by have:=hf hp.get;rw [h0] at this;cases this) h1 h2
 | new hw hf hA hb hr hk hlo hhi=>
   rename_i id bk
   have hfl:fl P hp.get (evF (look ops g0 (only D S))) o id o.op=some (v,some bk):=by rw [Z5I hevs];exact hf _
   obtain ⟨v',obj,h1,h2⟩:=Z5G hev hSR.hr o v (some bk) hfl
   have hle:e.le (e.add id w.heap.size none):=Env.le_add hr hk
   obtain ⟨h3,h4⟩:=h2 (e.add id w.heap.size none) hle Env.ρ_add_same Env.κ_add_same
   refine ⟨e.add id w.heap.size none,_,w.alloc obj,?_,h.put hS hlm hle h4 ?_,hSR.lay hb hr hk h3,Goes.lay hr hk hlo⟩
   ·rw [Z42 hm ho (h.gr.wanted (hwant.trans hw)) (fun c h0=>by have:=hf hp.get;rw [h0] at this;cases this) ht (.inl rfl) h1,Z1o ho ht]
   ·intro j id' hj hA'
    have hne:id'≠id:=fun h0=>hj (h.ainj j i' id (h0 ▸ hA') hA)
    exact ⟨Env.ρ_add hne,Env.κ_add hne⟩
theorem Y1y {m dn:Nat}:Nat.beq (Nat.land m dn) m=true↔∀ j,m.testBit j=true→dn.testBit j=true:=by
 constructor
 ·intro h j hj
  have h:=Nat.eq_of_beq_eq_true h
  have h2:(m&&&dn).testBit j=true:=by
   have:(m&&&dn)=m:=h
   rw [this];exact hj
  rw [Nat.testBit_and] at h2
  simp at h2;exact h2.2
 ·intro h
  have:m&&&dn=m:=by
   apply Nat.eq_of_testBit_eq
   intro j
   rw [Nat.testBit_and]
   cases hj:m.testBit j with
   | false=>rfl
   | true=>simp [h j hj]
  have h2:Nat.land m dn=m:=this
  rw [h2];exact Nat.beq_refl m
theorem DR.drive {cs:List Frame} {k:List Item} {i0:Nat} (hun:∀ x∈d.todo,(∀ j,x.2.2.testBit j=true→d.done.testBit j=true)→x.1=i0) (hin:∃ o m,(i0,o,m)∈d.todo) :
 ∀ (l:List Nat) (fr:Frame) (e:Env) (w:World) (D:Nat→Bool),DR P e hp lo hi true nt tm ops d l fr.tmps lm g0 A S D→SR P e hp nx w→fr.mode=.run→fr.todo=.inRegion ops l::k →
 ∃ e' tmps' l' w' D',Steps P (lone fr cs w) (lone { fr with tmps:=tmps',todo:=.inRegion ops (i0::l')::k } cs w')∧DR P e' hp lo hi true nt tm ops d (i0::l') tmps' lm g0 A S D'∧SR P e' hp nx w'∧Goes lo e hp nx w e' hp nx w'
 | [],fr,e,w,D,h,hSR,hm,ht=>by
   exfalso
   obtain ⟨o,m,hin⟩:=hin
   obtain ⟨h1,h2⟩:=(h.todo _).1 hin
   obtain ⟨n,hn,hx⟩:=List.getElem_of_mem h1
   have hg:lm[n]? = some (i0,o,m):=by rw [List.getElem?_eq_getElem hn,hx]
   obtain ⟨rfl,ho⟩:=h.ms.at_ _ _ _ _ hg
   exact h2 (h.sub _ (h.sched _ (Array.getElem?_eq_some_iff.1 ho).1))
 | j::l,fr,e,w,D,h,hSR,hm,ht=>by
   by_cases hj:j∈S.map (·.1)
   ·obtain ⟨e1,tmps1,w1,hs,h1,h2,h3⟩:=h.comes (cs:=cs) hSR hm ht hj
    obtain ⟨e',tmps',l',w',D',g1,g2,g3,g4⟩:=DR.drive (cs:=cs) (k:=k) hun hin l { fr with tmps:=tmps1,todo:=.inRegion ops l::k } e1 w1 _ h1 h2 hm rfl
    exact ⟨e',tmps',l',w',D',.head hs g1,g2,g3,h3.trans g4⟩
   ·have hrdy:=h.sched.1
    obtain ⟨o,ho,_,_⟩:=hrdy
    have hlt:j<lm.length:=by rw [h.ms.len];exact (Array.getElem?_eq_some_iff.1 ho).1
    have hg:=List.getElem?_eq_getElem hlt
    have hmem:=List.getElem_mem hlt
    generalize lm[j]=x at hg hmem
    obtain ⟨a,b,c⟩:=x
    obtain ⟨rfl,hob⟩:=h.ms.at_ _ _ _ _ hg
    have htodo:(a,b,c)∈d.todo:=(h.todo _).2 ⟨hmem,hj⟩
    have:=hun _ htodo fun n hn=>(h.done n).2 (h.sub n (h.mask_sub hg h.sched.1 n hn))
    dsimp only at this
    subst this
    exact ⟨e,fr.tmps,l,w,D,by rw [←ht];exact .refl _ _,h,hSR,.refl⟩
theorem DR.drain {cs:List Frame} {k:List Item} (hnil:d.todo=[]) :
 ∀ (l:List Nat) (fr:Frame) (e:Env) (w:World) (D:Nat→Bool),DR P e hp lo hi true nt tm ops d l fr.tmps lm g0 A S D→SR P e hp nx w→fr.mode=.run→fr.todo=.inRegion ops l::k →
 ∃ e' tmps' w',Steps P (lone fr cs w) (lone { fr with tmps:=tmps',todo:=k } cs w')∧TR e' nt tm tmps'∧SR P e' hp nx w'∧Goes lo e hp nx w e' hp nx w'
 | [],fr,e,w,D,h,hSR,hm,ht=>by
   refine ⟨e,fr.tmps,w,.one (Z9k hm ht),⟨h.size,fun t a ha=>?_⟩,hSR,.refl⟩
   rw [h.tms t] at ha
   refine h.gr t a ?_
   rw [Z4x]
   ·exact ha
   ·intro x hx _
    obtain ⟨o,m,hlm⟩:=h.lm_at hx
    exact h.sched _ (Array.getElem?_eq_some_iff.1 (h.ms.at_ _ _ _ _ hlm).2).1
 | j::l,fr,e,w,D,h,hSR,hm,ht=>by
   have hj:j∈S.map (·.1):=by
    obtain ⟨o,ho,_,_⟩:=h.sched.1
    have hlt:j<lm.length:=by rw [h.ms.len];exact (Array.getElem?_eq_some_iff.1 ho).1
    have hg:=List.getElem?_eq_getElem hlt
    have hmem:=List.getElem_mem hlt
    generalize lm[j]=x at hg hmem
    obtain ⟨a,b,c⟩:=x
    obtain ⟨rfl,_⟩:=h.ms.at_ _ _ _ _ hg
    apply Classical.byContradiction
    intro hn
    have:=(h.todo _).2 ⟨hmem,hn⟩
    rw [hnil] at this;cases this
   obtain ⟨e1,tmps1,w1,hs,h1,h2,h3⟩:=h.comes (cs:=cs) hSR hm ht hj
   obtain ⟨e',tmps',w',g1,g2,g3,g4⟩:=DR.drain (cs:=cs) (k:=k) hnil l { fr with tmps:=tmps1,todo:=.inRegion ops l::k } e1 w1 _ h1 h2 hm rfl
   exact ⟨e',tmps',w',.head hs g1,g2,g3,h3.trans g4⟩
end Go.Sy
namespace Go.Sy
variable {P:Program} {e e':Env} {w w':World} {hp hp':Tr Blk} {nx nx' lo hi:Nat}
structure FD (P:Program) (e:Env) (hp:Tr Blk) (lo hi:Nat) (live:Bool) (f:AF) (fr:Frame):Prop extends FB e f fr where
 run:f.ret=false
 in_:∃ ops d k l k' lm g0 A S D,f.todo=.draw ops d::k∧fr.todo=.inRegion ops l::k'∧TD e k k'∧DR P e hp lo hi live f.fx.nt f.tm ops d l fr.tmps lm g0 A S D ∧
  (live=false→∃ i o m l',d.cur=some (i,o,m)∧(i,o,m)∈d.todo∧(∀ j,m.testBit j=true→d.done.testBit j=true)∧l=i::l')
def FR (P:Program) (e:Env) (hp:Tr Blk) (lo hi:Nat) (live:Bool) (f:AF) (fr:Frame):Prop:=FP e f fr∨FD P e hp lo hi live f fr
inductive KR (P:Program) (e:Env) (hp:Tr Blk):Nat→List AF→List Frame→Prop
 | nil {b:Nat}:KR P e hp b [] []
 | cons {lo b:Nat} {f:AF} {fr:Frame} {fs:List AF} {frs:List Frame} (hb:lo≤b) (h:FR P e hp lo b false f fr) (t:KR P e hp lo fs frs):KR P e hp b (f::fs) (fr::frs)
theorem DR.goes {nt:Nat} {tm:Tr AV} {ops:Array Oper} {d:Dr} {l:List Nat} {tmps:Array Value} {lm:List (Nat×Oper×Nat)} {g0:Nat→Option AV} {A:Nat→Option Nat} {S:List (Nat×AV)} {D:Nat→Bool}
 (h:DR P e hp lo hi false nt tm ops d l tmps lm g0 A S D) (hG:Goes hi e hp nx w e' hp' nx' w'):DR P e' hp' lo hi false nt tm ops d l tmps lm g0 A S D:=
 { h with
   gr:=fun t a ha=>let ⟨v,hv,hr⟩:=h.gr t a ha;⟨v,hv,hr.mono hG.le⟩
   cert:=fun pre i v post hS hD o ho=>by
    cases h.cert pre i v post hS hD o ho with
    | skip h=>exact .skip h
    | load ho hw ha hv hs _=>exact .load ho hw ha hv hs (fun h0=>by cases h0)
    | op hw hf=>exact .op hw hf
    | new hw hf hA hb hr hk h1 h2=>exact .new hw hf hA ((hG.abs _ h2 hr).trans hb) ((hG.old _ h2).trans hr) ((hG.oldκ _ h2).trans hk) h1 h2 }
theorem FR.goes {f:AF} {fr:Frame} (h:FR P e hp lo hi false f fr) (hG:Goes hi e hp nx w e' hp' nx' w'):FR P e' hp' lo hi false f fr:=by
 rcases h with h|h
 ·exact .inl (h.mono hG.le)
 ·obtain ⟨hb,hrun,ops,d,k,l,k',lm,g0,A,S,D,h1,h2,h3,h4,h5⟩:=h
  exact .inr ⟨hb.mono hG.le,hrun,ops,d,k,l,k',lm,g0,A,S,D,h1,h2,h3.mono hG.le,h4.goes hG,h5⟩
theorem KR.goes:∀ {b:Nat} {fs:List AF} {frs:List Frame},KR P e hp b fs frs→Goes b e hp nx w e' hp' nx' w'→KR P e' hp' b fs frs
 | _,_,_,.nil,_=>.nil
 | _,_,_,.cons hb h t,hG=>.cons hb (h.goes hG) (KR.goes t (hG.down hb))
structure MR (P:Program) (e:Env) (lo:Nat) (s:AS) (fr:Frame) (cs:List Frame) (w:World):Prop where
 sr:SR P e s.hp s.nx w
 lob:lo≤s.nx
 fr:FR P e s.hp lo s.nx true s.fr fr
 cs:KR P e s.hp lo s.cs cs
def Sim (P:Program) (e:Env) (s:AS) (fr:Frame) (cs:List Frame) (w:World) (s':AS):Prop:=
 ∀ base,∃ e' lo' fr' cs' w',Steps P (lone fr (cs++base) w) (lone fr' (cs'++base) w')∧MR P e' lo' s' fr' cs' w'∧Goes 0 e s.hp s.nx w e' s'.hp s'.nx w'
section
variable {fx:Fx} {tm:Tr AV} {defs:List Nat} {k:List AI} {cs:List AF} {fr:Frame} {frs:List Frame}
theorem FB.runs {todo:List AI} (h:FB e ⟨fx,tm,todo,defs,false⟩ fr):fr.mode=.run:=by simpa using h.mode
theorem Z1a {todo todo':List AI} {t':List Item} (hM:MR P e lo ⟨⟨fx,tm,todo,defs,false⟩,cs,hp,nx⟩ fr frs w) (hF:FP e ⟨fx,tm,todo,defs,false⟩ fr) (hT:TD e todo' t')
 (hs:∀ cs',step P (lone fr cs' w)=.next (lone { fr with todo:=t' } cs' w)):Sim P e ⟨⟨fx,tm,todo,defs,false⟩,cs,hp,nx⟩ fr frs w ⟨⟨fx,tm,todo',defs,false⟩,cs,hp,nx⟩:=fun base=>
 ⟨e,lo,{ fr with todo:=t' },frs,w,.one (hs _),⟨hM.sr,hM.lob,.inl ⟨⟨hF.fn,hF.kind,hF.mode,hF.round,hF.defs⟩,hF.tm,hT⟩,hM.cs⟩,.refl⟩
theorem TD.cons_inv {a:AI} {k:List AI} {t:List Item} (h:TD e (a::k) t):∃ i t',t=i::t'∧IR e a i∧TD e k t':=by
 cases h with
 | cons h t=>exact ⟨_,_,rfl,h,t⟩
theorem Y4B {ops:Array Oper} {j:Nat} {o:Oper} {rest:List Oper} (h:ops.toList.drop j=o::rest):ops[j]? = some o∧j<ops.size∧rest=ops.toList.drop (j+1)∧List.range' j (ops.size-j)=j::List.range' (j+1) (ops.size-(j+1)):=by
 have hlt:j<ops.size:=by
  rcases Nat.lt_or_ge j ops.toList.length with h'|h'
  ·simpa using h'
  ·rw [List.drop_of_length_le h'] at h;cases h
 have hlt':j<ops.toList.length:=by simpa using hlt
 rw [List.drop_eq_getElem_cons hlt'] at h
 injection h with h1 h2
 refine ⟨by rw [←h1];simp [hlt],hlt,h2.symm,?_⟩
 rw [show ops.size-j=(ops.size-(j+1))+1 by omega,List.range'_succ]
theorem Y6o {ops:Array Oper} {j:Nat} (hj:j≤ops.size) (h:ops.toList.drop j=[]):List.range' j (ops.size-j)=[]:=by
 have:ops.toList.length≤j:=by simpa using h
 have:ops.size-j=0:=by simp at this;omega
 rw [this];rfl
theorem IR.reg_inv {ops:Array Oper} {o:Oper} {rest:List Oper} {i:Item} (h:IR e (.reg ops (o::rest)) i) :
 ∃ j,i=.inRegion ops (j::List.range' (j+1) (ops.size-(j+1)))∧ops[j]? = some o∧IR e (.reg ops rest) (.inRegion ops (List.range' (j+1) (ops.size-(j+1)))):=by
 generalize hx:AI.reg ops (o::rest)=x at h
 cases h with
 | reg ops' j hj=>
   injection hx with h1 h2
   subst h1
   obtain ⟨g1,g2,g3,g4⟩:=Y4B h2.symm
   exact ⟨j,by rw [g4],g1,by rw [g3];exact .reg ops (j+1) (by omega)⟩
 | _=>cases hx
theorem Z44 {f f':AF} {b:Nat} {v:AV} {v':Value} (hF:FR P e hp lo b false f fr) (hb:lo≤b) (hbn:b≤nx) (hv:VR e v v') (hS:SR P e hp nx w) (h:f.finish hp v=some f'):FR P e hp lo nx true f' (fr.finish v'):=by
 obtain ⟨fx,tm,todo,defs,ret⟩:=f
 unfold AF.finish at h
 split at h
 ·rename_i fx tm ops o rest k defs heq
  simp at heq;obtain ⟨rfl,rfl,rfl,rfl,rfl⟩:=heq
  rcases hF with hF|hF
  ·obtain ⟨i,t',ht,hi,hk⟩:=hF.todo.cons_inv
   obtain ⟨j,rfl,hj,hir⟩:=hi.reg_inv
   rw [Z1o hj ht]
   unfold finishReg at h
   split at h
   ·rename_i tm' htm
    simp at h;subst h
    exact .inl ⟨⟨hF.fn,hF.kind,hF.mode,hF.round,hF.defs⟩,hF.tm.put hv htm,.cons hir hk⟩
   ·cases h
  ·obtain ⟨_,_,ops',d,k0,l,k',lm,g0,A,S,D,h1,_⟩:=hF
   cases h1
 ·rename_i fx tm ops d k defs heq
  simp at heq;obtain ⟨rfl,rfl,rfl,rfl,rfl⟩:=heq
  rcases hF with hF|hF
  ·obtain ⟨i,t',ht,hi,hk⟩:=hF.todo.cons_inv
   cases hi
  ·obtain ⟨hB,_,ops',d',k0,l,k',lm,g0,A,S,D,h1,ht,hk,hD,hcur⟩:=hF
   simp at h1;obtain ⟨⟨rfl,rfl⟩,rfl⟩:=h1
   obtain ⟨i,o,m,l',hc,hin,hmask,rfl⟩:=hcur rfl
   rw [hc] at h
   simp only [finishDr] at h
   unfold finishDraw at h
   split at h
   ·rename_i tm' d2 htm hd2
    simp at h;subst h
    obtain ⟨hlm,hnS⟩:=(hD.todo _).1 hin
    obtain ⟨n,hn,hx⟩:=List.getElem_of_mem hlm
    have hli:lm[n]? = some (i,o,m):=by rw [List.getElem?_eq_getElem hn,hx]
    obtain ⟨rfl,ho⟩:=hD.ms.at_ _ _ _ _ hli
    have hdst:Z2Y ops i=o.dst:=by simp [Z2Y,ho]
    rw [Z1o ho ht]
    have hrdy:=hD.sched.1
    have hDi:D i=false:=by obtain ⟨_,_,h0,_⟩:=hrdy;exact h0
    have hmD:=hD.mask_sub hli hrdy
    unfold drAfter at hd2
    simp only at hd2
    split at hd2
    ·rename_i hseen
     simp at hd2;subst hd2
     have hdoneb:∀ j,(d.done|||2 ^ i).testBit j=true↔j=i∨d.done.testBit j=true:=fun j=>by
      rw [Nat.testBit_or,Nat.testBit_two_pow]
      simp only [Bool.or_eq_true,decide_eq_true_eq]
      constructor
      ·rintro (h0|h0)
       ·exact .inr h0
       ·exact .inl h0.symm
      ·rintro (h0|h0)
       ·exact .inr h0.symm
       ·exact .inl h0
     have honly:only (Dset D i) ((i,v)::S)=(i,v)::only D S:=by
      unfold only
      rw [List.filter_cons,if_pos (by simp [Dset])]
      congr 1
      apply List.filter_congr
      intro x hx
      have:x.1≠i:=fun h0=>hnS (h0 ▸ List.mem_map_of_mem hx)
      simp [Dset,this]
     refine .inr ⟨⟨hB.fn,hB.kind,hB.mode,hB.round,hB.defs⟩,rfl,ops,_,k,l',k',lm,g0,A,(i,v)::S,Dset D i,rfl,rfl,hk,?_,fun h0=>by cases h0⟩
     refine ⟨hD.ms,hD.ap,hD.sched.2,?_,?_,?_,?_,?_,?_,?_,?_,?_,?_,hD.ainj,fun j id h0=>Nat.lt_of_lt_of_le (hD.alt j id h0) hbn,?_⟩
     ·rw [List.map_cons];exact List.nodup_cons.2 ⟨hnS,hD.nod⟩
     ·intro pre j u post hS2
      cases pre with
      | nil=>
        simp at hS2
        obtain ⟨⟨rfl,rfl⟩,rfl⟩:=hS2
        exact ⟨o,m,hli,fun j hj=>(hD.done j).1 (hmask j hj)⟩
      | cons x pre=>
        simp at hS2
        exact hD.ord pre j u post hS2.2
     ·intro j
      dsimp only
      rw [hdoneb,List.map_cons,List.mem_cons,hD.done]
     ·intro x
      dsimp only
      rw [List.mem_filter,hD.todo]
      constructor
      ·rintro ⟨⟨h1,h2⟩,h3⟩
       refine ⟨h1,?_⟩
       rw [List.map_cons,List.mem_cons]
       rintro (h4|h4)
       ·rw [h4] at h3;simp at h3
       ·exact h2 h4
      ·rintro ⟨h1,h2⟩
       rw [List.map_cons,List.mem_cons] at h2
       refine ⟨⟨h1,fun h3=>h2 (.inr h3)⟩,?_⟩
       cases hb:Nat.beq x.1 i with
       | false=>rfl
       | true=>exact absurd (.inl (Nat.eq_of_beq_eq_true hb)) h2
     ·intro j hj
      by_cases h0:j=i
      ·subst h0;simp
      ·rw [List.map_cons,List.mem_cons];exact .inr (hD.sub j (by simpa [Dset,h0] using hj))
     ·intro j oj mj hj hlj n hn'
      by_cases h0:j=i
      ·subst h0
       rw [hli] at hlj;simp at hlj;obtain ⟨rfl,rfl⟩:=hlj
       simp [Dset,hmD n hn']
      ·simp [Dset,hD.down j oj mj (by simpa [Dset,h0] using hj) hlj n hn']
     ·intro t
      simp only [look]
      rw [hdst,←hD.tms t]
      rcases Z2X htm with ⟨h1,rfl⟩ | ⟨dd,h1,_,rfl⟩
      ·rw [h1,if_neg (by simp)]
      ·rw [h1,Tr.get_put]
       by_cases h2:dd=t
       ·subst h2;simp
       ·rw [if_neg h2,if_neg (by simpa using h2)]
     ·dsimp only;rw [Z5j,hD.size]
     ·dsimp only
      rw [honly]
      intro t a ha
      simp only [look] at ha
      split at ha
      ·rename_i hdt
       cases ha
       rcases Z2X htm with ⟨h1,rfl⟩ | ⟨dd,h1,hlt,rfl⟩
       ·rw [hdst,h1] at hdt;cases hdt
       ·rw [hdst,h1] at hdt;cases hdt
        rw [h1]
        exact ⟨v',Z5k (by rw [hD.size];exact hlt),hv⟩
      ·rename_i hdt
       obtain ⟨u,hu,hr⟩:=hD.gr t a ha
       rw [hdst] at hdt
       exact ⟨u,by rw [Z4z hdt];exact hu,hr⟩
     ·intro x hx t hdt
      rcases List.mem_cons.1 hx with rfl|hx
      ·rcases Z2X htm with ⟨h1,rfl⟩ | ⟨dd,h1,hlt,rfl⟩
       ·dsimp only at hdt;rw [hdst,h1] at hdt;cases hdt
       ·dsimp only at hdt;rw [hdst,h1] at hdt;cases hdt;exact hlt
      ·exact hD.dst x hx t hdt
     ·intro pre j u post hS2 hDj oj hoj
      have hne:j≠i:=fun h0=>by subst h0;simp [Dset] at hDj
      have hDj':D j=false:=by simpa [Dset,hne] using hDj
      cases pre with
      | nil=>simp at hS2;exact absurd hS2.1.1.symm hne
      | cons x pre=>
        simp at hS2
        have hmj:m.testBit j=false:=by
         cases hb:m.testBit j with
         | false=>rfl
         | true=>rw [hmD j hb] at hDj';cases hDj'
        cases hD.cert pre j u post hS2.2 hDj' oj hoj with
        | skip h=>exact .skip h
        | load ho' hw' ha hv' hs _=>
          have hmem:(j,_,_,_)∈d.seen.filter (fun x => !(m.testBit x.1)):=List.mem_filter.2 ⟨hs,by simp [hmj]⟩
          exact .load ho' hw' ha hv' hmem (fun _=>Z7p hseen _ _ _ _ hmem)
        | op hw' hf=>exact .op hw' hf
        | new hw' hf hA hb' hr hk' h1 h2=>exact .new hw' hf hA hb' hr hk' h1 (Nat.lt_of_lt_of_le h2 hbn)
    ·cases hd2
   ·cases h
 ·rename_i fx tm l k defs heq
  simp at heq;obtain ⟨rfl,rfl,rfl,rfl,rfl⟩:=heq
  simp at h;subst h
  rcases hF with hF|hF
  ·obtain ⟨i,t',ht,hi,hk⟩:=hF.todo.cons_inv
   cases hi with
   | inRF hl=>
     rename_i c
     have:fr.finish v'={ fr with todo:=.endRangeFunc c::t' }:=by simp [Frame.finish,ht]
     rw [this]
     exact .inl ⟨⟨hF.fn,hF.kind,hF.mode,hF.round,hF.defs⟩,hF.tm,.cons (.endRF hl) hk⟩
  ·obtain ⟨_,_,ops',d,k0,l,k',lm,g0,A,S,D,h1,_⟩:=hF
   cases h1
 ·cases h
end
end Go.Sy
namespace Go.Sy
variable {P:Program} {e e':Env} {w w':World} {hp hp':Tr Blk} {nx nx' lo hi:Nat}
variable {fx:Fx} {tm:Tr AV} {defs:List Nat} {k:List AI} {cs:List AF} {fr:Frame} {frs:List Frame}
theorem Goes.zero (h:Goes lo e hp nx w e' hp' nx' w'):Goes 0 e hp nx w e' hp' nx' w':=h.down (Nat.zero_le _)
/-! ### A function is entered -/
theorem Z9r:∀ (args:List AV) (i:Nat) (t:Tr AV) (n:Nat),(argsT args i t).get n=if i≤n∧n<i+args.length then args[n-i]? else t.get n
 | [],i,t,n=>by
   simp only [argsT]
   rw [if_neg (by simp only [List.length_nil];omega)]
 | a::r,i,t,n=>by
   simp only [argsT]
   rw [Z9r r,Tr.get_put]
   by_cases h:i=n
   ·subst h
    rw [if_neg (by omega),if_pos rfl,if_pos (by simp only [List.length_cons];omega),Nat.sub_self];rfl
   ·by_cases h2:i+1≤n∧n<i+1+r.length
    ·rw [if_pos h2,if_pos (by simp only [List.length_cons];omega),show n-i=(n-(i+1))+1 by omega];rfl
    ·rw [if_neg h2,if_neg h,if_neg (by simp only [List.length_cons];omega)]
theorem Z6H {f:FuncId} {args:List AV} {vs:List Value} {af:AF} (hv:VRs e args vs) (h:enterA P f args=some af):FP e af (Frame.enter P f ⟨vs⟩ .normal)∧af.fx.fn=f:=by
 unfold enterA at h
 rw [Y4i] at h
 split at h
 ·rename_i fn hf
  unfold enterFn at h
  split at h
  ·rename_i c hc
   simp at h;subst h
   have hl:=hv.length
   refine ⟨⟨⟨rfl,rfl,rfl,rfl,.nil⟩,⟨?_,fun t a ha=>?_⟩,?_⟩,rfl⟩
   ·simp [Frame.enter,hf,hl];omega
   ·rw [Z9r] at ha
    simp only [Nat.zero_le,true_and,Nat.zero_add,Nat.sub_zero] at ha
    split at ha
    ·obtain ⟨v,hv',hr⟩:=hv.get ha
     rename_i hlt
     refine ⟨v,?_,hr⟩
     simp only [Frame.enter]
     rw [Array.getElem?_append_left (by simp;omega)]
     simpa using hv'
    ·rw [Tr.get_nil] at ha;cases ha
   ·have:(Frame.enter P f ⟨vs⟩ .normal).todo=[.code c]:=by simp [Frame.enter,hf,hc]
    rw [this]
    exact .cons (.code c) .nil
  ·cases h
 ·cases h
/-! ### A call, a round -/
structure Waits (P:Program) (e:Env) (lo:Nat) (f:AF) (cs:List AF) (hp:Tr Blk) (nx:Nat) (fr:Frame) (frs:List Frame) (w:World):Prop where
 sr:SR P e hp nx w
 lob:lo≤nx
 fr:FR P e hp lo nx false f fr
 cs:KR P e hp lo cs frs
theorem Z2m {l c:Nat} {st:LoopState} {pend:Option Code} {fn nt:Nat} {tm:Tr AV} {ps:List Tmp} {as bd:Code} {df:Nat} (hS:SR P e hp nx w) (hl:e.ρ l=some c) (hb:hp.get l=some (.loop st pend fn nt tm ps as bd df)) :
 ∃ r,w.heap[c]? = some (.loop r)∧(Instr.getLoop c).run P w=.ok r w∧r.state=st∧r.pending=pend∧r.fn=fn∧TR e nt tm r.tmps∧r.params.toList=ps∧r.assign=as∧r.body=bd∧e.ρ df=some r.defers:=by
 obtain ⟨ob,hob,hB⟩:=hS.hr l _ c hb hl
 cases ob<;>simp only [BR] at hB<;>try exact hB.elim
 exact ⟨_,hob,by simp [Instr.getLoop,Z29 hob (fun _ _ _=>by simp)],hB⟩
theorem Z7q {nt:Nat}:∀ {ps:List Tmp} {args:List AV} {vs:List Value} {tm tm':Tr AV} {tmps:Array Value},TR e nt tm tmps→VRs e args vs→putAll nt tm ps args=some tm' →
 ps.length=vs.length∧TR e nt tm' ((ps.zip vs).foldl (fun (t:Array Value) (x:Tmp×Value)=>t.setIfInBounds x.1 x.2) tmps)
 | [],[],_,tm,tm',tmps,hT,.nil,h=>by simp [putAll] at h;subst h;exact ⟨rfl,hT⟩
 | [],_::_,_,_,_,_,_,_,h=>by simp [putAll] at h
 | _::_,[],_,_,_,_,_,_,h=>by simp [putAll] at h
 | t::ps,a::args,_,tm,tm',tmps,hT,.cons (v:=v) hv hvs,h=>by
   simp only [putAll] at h
   split at h
   ·rename_i hlt
    have hlt:t<nt:=by simpa [Nat.blt_eq] using hlt
    have hT':TR e nt (tm.put t a) (tmps.setIfInBounds t v):=by
     refine ⟨by simp [hT.1],fun n x hx=>?_⟩
     rw [Tr.get_put] at hx
     split at hx
     ·rename_i h0;subst h0;cases hx;exact ⟨v,by simp [hT.1,hlt],hv⟩
     ·rename_i h0
      obtain ⟨u,hu,hr⟩:=hT.2 n x hx
      exact ⟨u,by rw [Array.getElem?_setIfInBounds_ne h0];exact hu,hr⟩
    obtain ⟨h1,h2⟩:=Z7q hT' hvs h
    exact ⟨by simp [h1],by simpa using h2⟩
   ·cases h
theorem Z4A {f:AF} {x:Option Ef} {s':AS} {o:Oper} {ops:Array Oper} {i:Nat} {rest:List Nat} {kk:List Item} (hW:Waits P e lo f cs hp nx fr frs w) (hm:fr.mode=.run) (ht:fr.todo=.inRegion ops (i::rest)::kk) (ho:ops[i]? = some o)
 (hw:Region.wanted o (yielded ops fr.tmps)=true) (hd:∀ c,o.op ≠ .defer c) (hx:DoesO P e hp nx w (execOp fr.eval o) x) (h:applyA P f cs hp nx x=some s') :
 ∀ base,∃ e' lo' fr' cs' w',Steps P (lone fr (frs++base) w) (lone fr' (cs'++base) w')∧MR P e' lo' s' fr' cs' w'∧Goes 0 e hp nx w e' s'.hp s'.nx w':=by
 intro base
 unfold applyA at h
 split at h
 ·rename_i v hp' nx'
  obtain ⟨n,v',w',e',hrun,hn,hv,hS',hG⟩:=hx _ rfl
  unfold backTo at h
  split at h
  ·rename_i f' hf'
   simp at h;subst h
   have hGlo:=hG.down hW.lob
   have hF':=Z44 (hW.fr.goes hG) hW.lob hG.nx hv hS' hf'
   exact ⟨e',lo,fr.finish v',frs,w',.one (Z42 hm ho hw hd ht hn hrun),⟨hS',Nat.le_trans hW.lob hG.nx,hF',hW.cs.goes hGlo⟩,hG.zero⟩
  ·cases h
 ·rename_i g args
  obtain ⟨vs,hrun,hvs,he⟩:=hx _ rfl
  unfold pushF at h
  split at h
  ·rename_i af haf
   simp at h;subst h
   obtain ⟨hFP,_⟩:=Z6H hvs haf
   exact ⟨e,nx,Frame.enter P g ⟨vs⟩ .normal,fr::frs,w,.one (Y2D hm ho hw hd ht hrun),⟨hW.sr,Nat.le_refl _,.inl hFP,.cons hW.lob hW.fr hW.cs⟩,.refl⟩
  ·cases h
 ·rename_i l args
  obtain ⟨c,vs,hl,hrun,hvs⟩:=hx _ rfl
  unfold beginLoop at h
  split at h
  ·rename_i st pend fn nt tm' ps as bd df hb
   split at h
   ·rename_i tm2 hput
    simp at h;subst h
    obtain ⟨r,hob,hgl,h1,h2,h3,h4,h5,h6,h7,h8⟩:=Z2m hW.sr hl hb
    obtain ⟨hlen,hT⟩:=Z7q h4 hvs hput
    have hsz:vs.toArray.size=r.params.size:=by
     rw [List.size_toArray,←hlen,←h5,Array.length_toList]
    have hfold:(r.params.zip vs.toArray).foldl (fun (t:Array Value) (x:Tmp×Value)=>t.setIfInBounds x.1 x.2) r.tmps=(ps.zip vs).foldl (fun (t:Array Value) (x:Tmp×Value)=>t.setIfInBounds x.1 x.2) r.tmps:=by
     rw [←Array.foldl_toList,Array.toList_zip,h5]
    have hyield:(Instr.yield c ⟨vs⟩).run P w=.ok (.round c r.fn ((ps.zip vs).foldl (fun (t:Array Value) (x:Tmp×Value)=>t.setIfInBounds x.1 x.2) r.tmps) r.assign r.body) w:=by
     have hne:¬ ((⟨vs⟩:Array Value).size≠r.params.size):=fun h0=>h0 hsz
     simp only [Instr.yield,Sem.run_bind,hgl,Result.andThen_ok]
     rw [if_neg hne]
     simp only [Sem.run_pure]
     congr 2
    rw [hyield] at hrun
    refine ⟨e,nx,_,fr::frs,w,.one (Y2E hm ho hw hd ht hrun),⟨hW.sr,Nat.le_refl _,.inl ⟨⟨h3,rfl,rfl,⟨c,hl,rfl⟩,.nil⟩,hT,?_⟩,.cons hW.lob hW.fr hW.cs⟩,.refl⟩
    rw [h6,h7]
    exact .cons (.code as) (.cons .beginRound (.cons (.code bd) .nil))
   ·cases h
  ·cases h
 ·cases h
/-! ### A region in its order -/
theorem Y4C {o:Oper} {rest:List Oper} {ops:Array Oper} :
 stepOp o rest ops k P fx tm defs cs hp nx=(match wantedA ops tm o with
  | none=>none
  | some false=>regPut ops rest k fx defs cs hp nx (putT fx tm o.dst (.tup []))
  | some true=>regFl (fl P hp.get (evA tm) o nx o.op) P fx tm ops o o.dst o.op rest k defs cs hp nx):=by
 obtain ⟨dst,op,ty,pos,aft,gd⟩:=o
 cases gd with
 | none=>rfl
 | some g=>
   show regIf (wantedA ops tm ⟨dst,op,ty,pos,aft,some g⟩) P fx tm ops _ dst op rest k defs cs hp nx=_
   cases wantedA ops tm ⟨dst,op,ty,pos,aft,some g⟩ with
   | none=>rfl
   | some b=>cases b<;>rfl
theorem Z36 {ops:Array Oper} {rest:List Oper} {t:Option (Tr AV)} {s':AS} (h:regPut ops rest k fx defs cs hp nx t=some s'):∃ tm',t=some tm'∧s'=⟨⟨fx,tm',.reg ops rest::k,defs,false⟩,cs,hp,nx⟩:=by
 cases t with
 | none=>cases h
 | some tm'=>exact ⟨tm',rfl,(Option.some.inj h).symm⟩
theorem Z3F {o:Oper} {H:Nat→Option Blk} {ev:Operand→Option AV} {id:Nat} {x:AV×Option Blk} (h:fl P H ev o id o.op=some x):∀ c,o.op ≠ .defer c:=fun c h0=>by rw [h0] at h;cases h
theorem Z5l {o:Oper} {ev:Operand→Option AV} {x:Ef} (h:ef P hp nx ev o.op=some x):∀ c,o.op ≠ .defer c:=fun c h0=>by rw [h0] at h;cases h
theorem Y8O {ops:Array Oper} {o:Oper} {rest:List Oper} {s':AS} (hM:MR P e lo ⟨⟨fx,tm,.reg ops (o::rest)::k,defs,false⟩,cs,hp,nx⟩ fr frs w) (hF:FP e ⟨fx,tm,.reg ops (o::rest)::k,defs,false⟩ fr)
 (h:stepOp o rest ops k P fx tm defs cs hp nx=some s'):Sim P e ⟨⟨fx,tm,.reg ops (o::rest)::k,defs,false⟩,cs,hp,nx⟩ fr frs w s':=by
 have hW:Waits P e lo ⟨fx,tm,.reg ops (o::rest)::k,defs,false⟩ cs hp nx fr frs w:=⟨hM.sr,hM.lob,.inl hF,hM.cs⟩
 have hm:=hF.toFB.runs
 obtain ⟨i,t',ht,hi,hk⟩:=hF.todo.cons_inv
 obtain ⟨j,rfl,hj,hir⟩:=hi.reg_inv
 have hgr:=hF.tm.gr
 have hev:∀ x a,evA tm x=some a→VR e a (fr.eval x):=by rw [Z7n];exact hgr.ev
 rw [Y4C] at h
 split at h
 ·cases h
 ·rename_i hw
  have hw':=hgr.wanted (ops:=ops) (o:=o) hw
  obtain ⟨tm',htm,rfl⟩:=Z36 h
  intro base
  refine ⟨e,lo,fr.finish undef,frs,w,.one (Z9l hm hj hw' ht),⟨hM.sr,hM.lob,?_,hM.cs⟩,.refl⟩
  rw [Z1o hj ht]
  exact .inl ⟨⟨hF.fn,hF.kind,hF.mode,hF.round,hF.defs⟩,hF.tm.put Z5H htm,.cons hir hk⟩
 ·rename_i hw
  have hw':=hgr.wanted (ops:=ops) (o:=o) hw
  cases hfl:fl P hp.get (evA tm) o nx o.op with
  | none=>
    rw [hfl] at h
    have h':applyA P ⟨fx,tm,.reg ops (o::rest)::k,defs,false⟩ cs hp nx (ef P hp nx (evA tm) o.op)=some s':=h
    cases hef:ef P hp nx (evA tm) o.op with
    | none=>rw [hef] at h';cases h'
    | some x=>
      have hs:=Y1s hev hM.sr o
      rw [hef] at h' hs
      exact Z4A hW hm ht hj hw' (Z5l hef) hs h'
  | some p=>
    obtain ⟨v,b⟩:=p
    have hdoes:=Y4t hev hM.sr o hfl
    rw [hfl] at h
    cases b with
    | none=>
      have h':regPut ops rest k fx defs cs hp nx (putT fx tm o.dst v)=some s':=h
      obtain ⟨tm',htm,rfl⟩:=Z36 h'
      refine Z4A (x:=some (.val v hp nx)) hW hm ht hj hw' (Z3F hfl) (fun x hx=>by cases hx;exact hdoes) ?_
      simp only [applyA,backTo,AF.finish,finishReg,htm]
    | some bk=>
      have h':regPut ops rest k fx defs cs (hp.put nx bk) (Nat.succ nx) (putT fx tm o.dst v)=some s':=h
      obtain ⟨tm',htm,rfl⟩:=Z36 h'
      refine Z4A (x:=some (.val v (hp.put nx bk) (nx+1))) hW hm ht hj hw' (Z3F hfl) (fun x hx=>by cases hx;exact hdoes) ?_
      simp only [applyA,backTo,AF.finish,finishReg,htm]
end Go.Sy
namespace Go.Sy
variable {P:Program} {e e':Env} {w w':World} {hp hp':Tr Blk} {nx nx' lo hi:Nat}
variable {fx:Fx} {tm:Tr AV} {defs:List Nat} {k:List AI} {cs:List AF} {fr:Frame} {frs:List Frame}
/-! ### Leaving -/
theorem Z4B {todo:List AI} {jump:Option Code} {s':AS} (hM:MR P e lo ⟨⟨fx,tm,todo,defs,false⟩,cs,hp,nx⟩ fr frs w) (hF:FP e ⟨fx,tm,todo,defs,false⟩ fr) (hj:Y6j fr.todo jump)
 (h:leaveA fx tm todo defs cs hp nx jump=some s'):Sim P e ⟨⟨fx,tm,todo,defs,false⟩,cs,hp,nx⟩ fr frs w s':=by
 have hm:=hF.toFB.runs
 unfold leaveA at h
 have hround:=hF.round
 split at h
 ·rename_i hr
  dsimp only at hround
  rw [hr] at hround
  split at h
  ·rename_i hret
   simp at h;subst h
   have hj':fr.todo=[]∨∃ k,fr.todo=.code .ret::k:=by
    unfold isRet at hret
    split at hret
    ·exact .inl hj
    ·exact .inr hj
    ·cases hret
   intro base
   refine ⟨e,lo,{ fr with mode:=.returning },frs,w,.one (Y6i hm hround hj'),⟨hM.sr,hM.lob,.inl ⟨⟨hF.fn,hF.kind,rfl,?_,hF.defs⟩,hF.tm,hF.todo⟩,hM.cs⟩,.refl⟩
   dsimp only
   rw [hr];exact hround
  ·cases h
 ·rename_i l hr
  dsimp only at hround
  rw [hr] at hround
  obtain ⟨c,hl,hrc⟩:=hround
  split at h
  ·unfold leaveRound at h
   split at h
   ·rename_i st pend fn nt tm' ps as bd df hb
    obtain ⟨r,hob,hgl,h1,h2,h3,h4,h5,h6,h7,h8⟩:=Z2m hM.sr hl hb
    have hKR:=hM.cs
    dsimp only at hKR
    unfold leaveTo at h
    split at h
    ·rename_i cf cs'
     generalize hcs:(cf::cs')=cc at hKR
     cases hKR with
     | nil=>cases hcs
     | cons hlo hFc ht=>
       rename_i lo1 f1 fr1 fs frs1
       injection hcs with e1 e2
       subst e1;subst e2
       unfold backTo at h
       split at h
       ·rename_i f' hf'
        simp at h;subst h
        have hst:(if jump.isNone then LoopState.ready else LoopState.done)=loopEnd jump:=by cases jump<;>rfl
        have hBR:BR P e l (.loop (loopEnd jump) jump fn nt tm' ps as bd df) (.loop { r with state:=loopEnd jump,pending:=jump }):=⟨rfl,rfl,h3,h4,h5,h6,h7,h8⟩
        obtain ⟨hS',hG⟩:=hM.sr.setB hl hb hob hBR
        have hend:(Instr.endRound c jump).run P w=.ok (.bool jump.isNone) (setB w c (.loop { r with state:=loopEnd jump,pending:=jump })):=by
         simp only [Instr.endRound,Sem.run_bind,hgl,Result.andThen_ok,hst]
         rw [Z09 hob (fun _ _ _=>by simp)]
         rfl
        intro base
        have hF':=Z44 (hFc.goes (hG lo)) hlo hM.lob (VR.lit (e:=e) (.bool jump.isNone)) hS' hf'
        exact ⟨e,lo1,fr1.finish (.bool jump.isNone),frs1,_,.one (Z77 hm hrc hF.kind hj hend),⟨hS',Nat.le_trans hlo hM.lob,hF',ht.goes (hG lo1)⟩,(hG 0)⟩
       ·cases h
    ·cases h
   ·cases h
  ·cases h
/-! ### Returning -/
theorem Z79 {H:Nat→Option Blk} {nt:Nat} {tmps:Array Value} (hH:HR P e H w) (hT:TR e nt tm tmps):∀ (L:List ResultVar) (l:List AV),resA P H tm L=some l →
 ∃ vs,VRs e l vs∧(L.mapM (fun (x:ResultVar)=>match x with
   | .tmp t=>(pure (tmps.getD t undef):Sem Value)
   | .cell a t=>do loadVar t (←asAddr (tmps.getD a undef)))).run P w=.ok vs w
 | [],l,h=>by simp [resA] at h;subst h;exact ⟨[],.nil,by simp⟩
 | .tmp t::rest,l,h=>by
   simp only [resA] at h
   split at h
   ·rename_i v l' hv hl
    simp at h;subst h
    obtain ⟨u,hu,hr⟩:=hT.2 t v hv
    obtain ⟨vs,h1,h2⟩:=Z79 hH hT rest l' hl
    refine ⟨u::vs,.cons hr h1,?_⟩
    rw [List.mapM_cons]
    have hg:tmps.getD t undef=u:=by simp [hu]
    simp only [Sem.run_bind,Sem.run_pure,Result.andThen_ok,h2,hg]
   ·cases h
 | .cell a t::rest,l,h=>by
   simp only [resA] at h
   split at h
   ·rename_i b off ha
    split at h
    ·rename_i v l' hv hl
     simp at h;subst h
     obtain ⟨u,hu,hr⟩:=hT.2 a _ ha
     cases hr with
     | ptr hb=>
       rename_i c
       obtain ⟨x,hx,hrun⟩:=Z3X hH hb hv
       obtain ⟨vs,h1,h2⟩:=Z79 hH hT rest l' hl
       refine ⟨x::vs,.cons hx h1,?_⟩
       rw [List.mapM_cons]
       have hg:(asAddr (tmps.getD a undef)).run P w=.ok ⟨c,off,none⟩ w:=by simp [hu,asAddr]
       simp only [Sem.run_bind,hg,Sem.run_pure,Result.andThen_ok,hrun,h2]
    ·cases h
   ·cases h
theorem Z7r {v:AV} {todo:List AI} {ret:Bool} (hS:SR P e hp nx w) (hF:FP e ⟨fx,tm,todo,defs,ret⟩ fr) (h:resultA P hp.get fx.fn tm=some v) :
 ∃ fn v',P.funcs[fr.fn]? = some fn∧(results fn fr.tmps).run P w=.ok v' w∧VR e v v':=by
 unfold resultA at h
 rw [Y4i] at h
 split at h
 ·rename_i fn hf
  have hfn:fr.fn=fx.fn:=hF.fn
  cases hr:resA P hp.get tm fn.results.toList with
  | none=>rw [hr] at h;cases h
  | some l=>
    rw [hr] at h
    obtain ⟨vs,h1,h2⟩:=Z79 hS.hr hF.tm fn.results.toList l hr
    have hrun:(results fn fr.tmps).run P w=.ok (if hh:vs.toArray.size=1 then vs.toArray[0] else .tuple vs.toArray) w:=by
     unfold results
     rw [Array.mapM_eq_mapM_toList]
     simp only [Sem.run_bind,Sem.run_map]
     erw [h2]
     rfl
    refine ⟨fn,_,by rw [hfn];exact hf,hrun,?_⟩
    unfold oneOr at h
    split at h
    ·rename_i x heq
     simp at heq;subst heq
     simp at h;subst h
     cases h1 with
     | cons hv ht=>cases ht with
       | nil=>simpa using hv
    ·rename_i l' hne heq
     simp at heq;subst heq
     simp at h;subst h
     have:¬ vs.toArray.size=1:=by
      intro h9
      have h9:vs.length=1:=by simpa using h9
      have h10:=h1.length
      match l,h10 with
      | [a],_=>exact hne a rfl
      | [],h10=>simp [h9] at h10
      | _::_::_,h10=>rw [h9] at h10;simp at h10
     rw [dif_neg this]
     exact .tup h1
    ·cases h
 ·cases h
theorem SR.drop {d c:Nat} {blk:Blk} {ob ob':Obj} (h:SR P e hp nx w) (hd:e.ρ d=some c) (hblk:hp.get d=some blk) (hob:w.heap[c]? = some ob) :
 SR P e (hp.del d) nx (Sy.setB w c ob')∧∀ lo,Goes lo e hp nx w e (hp.del d) nx (Sy.setB w c ob'):=by
 have hget:∀ i,(hp.del d).get i≠none→i≠d∧hp.get i≠none:=fun i hi=>by
  rw [Tr.get_del] at hi
  split at hi
  ·exact absurd rfl hi
  ·rename_i h0;exact ⟨fun h1=>h0 h1.symm,hi⟩
 refine ⟨⟨?_,?_,?_⟩,fun lo=>⟨.refl e,fun _ _=>rfl,fun _ _=>rfl,?_,?_,?_,by rw [Z9h];exact Nat.le_refl _,rfl,rfl,rfl,Nat.le_refl _⟩⟩
 ·intro i bk ci hi hc
  obtain ⟨h1,h2⟩:=hget i (by rw [hi];simp)
  rw [Tr.get_del,if_neg (Ne.symm h1)] at hi
  obtain ⟨o,ho,hr⟩:=h.hr i bk ci hi hc
  refine ⟨o,?_,hr⟩
  rw [Z2V c ob' ci fun h8=>h1 (h.inj i d c h2 (by rw [hblk];simp) (h8 ▸ hc) hd),ho]
 ·intro i j ci hi hj hic hjc
  exact h.inj i j ci (hget i hi).2 (hget j hj).2 hic hjc
 ·intro i hi
  have hf:=h.fresh i hi
  refine ⟨hf.1,hf.2.1,?_⟩
  rw [Tr.get_del];split
  ·rfl
  ·exact hf.2.2
 ·intro i _ h0
  rw [Tr.get_del,if_neg]
  intro h1;subst h1;rw [h0] at hd;cases hd
 ·intro ci _ hn
  exact Z2V c ob' ci fun h0=>hn d (by rw [hblk];simp) (h0 ▸ hd)
 ·intro ci i _ h1 h2
  exact ⟨i,(hget i h1).2,h2⟩
theorem Y7T {todo:List AI} {s':AS} (hM:MR P e lo ⟨⟨fx,tm,todo,defs,true⟩,cs,hp,nx⟩ fr frs w) (h:stepRet P fx tm todo cs hp nx defs=some s') :
 Sim P e ⟨⟨fx,tm,todo,defs,true⟩,cs,hp,nx⟩ fr frs w s':=by
 have hF:FP e ⟨fx,tm,todo,defs,true⟩ fr:=by
  rcases hM.fr with hF|hF
  ·exact hF
  ·exact absurd hF.run (by simp)
 have hm:fr.mode=.returning:=hF.mode
 unfold stepRet at h
 split at h
 ·rename_i d ds
  unfold retDef at h
  split at h
  ·rename_i hb
   simp at h;subst h
   have hdl:=hF.defs
   dsimp only at hdl
   generalize hfd:fr.defers=fd at hdl
   cases hdl with
   | cons hd ht=>
     rename_i c l
     obtain ⟨ob,hob,hB⟩:=hM.sr.hr d _ c hb hd
     have:ob=.deferred (some []):=by
      cases ob with
      | deferred dd=>cases dd with
        | none=>exact hB.elim
        | some l=>cases l with
          | nil=>rfl
          | cons _ _=>exact hB.elim
      | _=>exact hB.elim
     subst this
     obtain ⟨hS',hG⟩:=hM.sr.drop (ob':=.deferred none) hd hb hob
     have hrun:(Instr.takeDeferred c).run P w=.ok [] (setB w c (.deferred none)):=by
      simp only [Instr.takeDeferred,Sem.run_bind,Z29 hob (fun _ _ _=>by simp),Result.andThen_ok]
      rw [Z09 hob (fun _ _ _=>by simp)]
      rfl
     intro base
     exact ⟨e,lo,{ fr with defers:=l },frs,_,.one (Y6k hm hfd hrun),⟨hS',hM.lob,.inl ⟨⟨hF.fn,hF.kind,hF.mode,hF.round,ht⟩,hF.tm,hF.todo⟩,hM.cs.goes (hG lo)⟩,hG 0⟩
  ·cases h
 ·unfold retTo at h
  split at h
  ·rename_i v hres
   obtain ⟨fn,v',hf,hrun,hv⟩:=Z7r hM.sr hF hres
   have hdl:=hF.defs
   dsimp only at hdl
   have hd:fr.defers=[]:=by
    generalize fr.defers=fd at hdl
    cases hdl;rfl
   split at h
   ·rename_i cf cs'
    have hKR:=hM.cs
    dsimp only at hKR
    generalize hcs:(cf::cs')=cc at hKR
    cases hKR with
    | nil=>cases hcs
    | cons hlo hFc ht=>
      rename_i lo1 f1 fr1 fs frs1
      injection hcs with e1 e2
      subst e1;subst e2
      unfold backTo at h
      split at h
      ·rename_i f' hf'
       simp at h;subst h
       intro base
       have hF':=Z44 hFc hlo hM.lob hv hM.sr hf'
       exact ⟨e,lo1,fr1.finish v',frs1,w,.one (Y4y hm hd hF.kind hf hrun),⟨hM.sr,Nat.le_trans hlo hM.lob,hF',ht⟩,.refl⟩
      ·cases h
   ·cases h
  ·cases h
/-! ### Ranging over a function -/
theorem Y1z {g:FuncId} {f:AF} {args:List AV} {vs:List Value} {s':AS} {fr0:Frame} (hS:SR P e hp nx w) (hlo:lo≤nx) (hF:FR P e hp lo nx false f fr0) (hK:KR P e hp lo cs frs) (hv:VRs e args vs)
 (h:pushIf P g f cs hp nx (enterA P g args)=some s'):entersB P g=true∧MR P e nx s' (Frame.enter P g ⟨vs⟩ .normal) (fr0::frs) w∧s'.hp=hp∧s'.nx=nx:=by
 unfold pushIf at h
 split at h
 ·rename_i he
  unfold pushF at h
  split at h
  ·rename_i af haf
   simp at h;subst h
   obtain ⟨hFP,_⟩:=Z6H hv haf
   exact ⟨he,⟨hS,Nat.le_refl _,.inl hFP,.cons hlo hF hK⟩,rfl,rfl⟩
  ·cases h
 ·cases h
theorem Y4D {f:Operand} {ps:Array Tmp} {as bd:Code} {s':AS} (hM:MR P e lo ⟨⟨fx,tm,.code (.rangeFunc f ps as bd)::k,defs,false⟩,cs,hp,nx⟩ fr frs w) (hF:FP e ⟨fx,tm,.code (.rangeFunc f ps as bd)::k,defs,false⟩ fr)
 (h:rfA P fx tm k defs cs hp nx ps.toList as bd (evA tm f) fx.round=some s'):Sim P e ⟨⟨fx,tm,.code (.rangeFunc f ps as bd)::k,defs,false⟩,cs,hp,nx⟩ fr frs w s':=by
 have hm:=hF.toFB.runs
 obtain ⟨i,t',ht,hi,hk⟩:=hF.todo.cons_inv
 cases hi
 have hev:∀ x a,evA tm x=some a→VR e a (fr.eval x):=by rw [Z7n];exact hF.tm.gr.ev
 have hround:=hF.round
 dsimp only at hround
 have hfr:=hM.sr.fresh nx (Nat.le_refl _)
 unfold rfA at h
 split at h
 ·rename_i hr
  rw [hr] at hround
  unfold rfOut at h
  split at h
  ·rename_i g l hf
   have hvr:=hev f _ hf
   generalize hy:fr.eval f=y at hvr
   cases hvr with
   | clo hl=>
     rename_i vs
     obtain ⟨hS1,hG1⟩:=hM.sr.new (blk:=.defd) (obj:=.deferred (some [])) (k:=none) trivial
     have hle1:=hG1.le
     let r:Loop:={ state:=.ready,pending:=none,fn:=fr.fn,tmps:=fr.tmps,params:=ps,assign:=as,body:=bd,defers:=w.heap.size }
     have hfr1:=hS1.fresh (nx+1) (Nat.le_refl _)
     have hle2:(e.add nx w.heap.size none).le ((e.add nx w.heap.size none).add (nx+1) (w.alloc (.deferred (some []))).heap.size none):=Env.le_add hfr1.1 hfr1.2.1
     have hρ:(e.add nx w.heap.size none).ρ nx=some w.heap.size:=Env.ρ_add_same
     obtain ⟨hS2,hG2⟩:=hS1.new (blk:=.loop .ready none fx.fn fx.nt tm ps.toList as bd nx) (obj:=.loop r) (k:=none)
      ⟨rfl,rfl,hF.fn,hF.tm.mono (hle1.trans hle2),rfl,rfl,rfl,hle2.ρ _ _ hρ⟩
     have hG:=hG1.trans (hG2.down (Nat.le_succ nx))
     have hc2:((e.add nx w.heap.size none).add (nx+1) (w.alloc (.deferred (some []))).heap.size none).ρ (nx+1)=some (w.alloc (.deferred (some []))).heap.size:=Env.ρ_add_same
     have hlec:=hle1.trans hle2
     let fr0:Frame:={ fr with todo:=.inRangeFunc (w.alloc (.deferred (some []))).heap.size::t',defers:=[{ target:=.collected w.heap.size,args:=#[] }]++fr.defers }
     have hF0:FP ((e.add nx w.heap.size none).add (nx+1) (w.alloc (.deferred (some []))).heap.size none) ⟨fx,tm,.inRF (nx+1)::k,nx::defs,false⟩ fr0:=
      ⟨⟨hF.fn,hF.kind,hF.mode,by dsimp only;rw [hr];exact hround,.cons (hle2.ρ _ _ hρ) (hF.defs.mono hlec)⟩,hF.tm.mono hlec,.cons (.inRF hc2) (hk.mono hlec)⟩
     obtain ⟨he,hM',h1,h2⟩:=Y1z (lo:=lo) hS2 (Nat.le_trans hM.lob (Nat.le_add_right nx 2)) (.inl hF0) (hM.cs.goes (hG.down hM.lob)) (.cons (.yld hc2) (hl.mono hlec)) h
     intro base
     have hen:(Instr.enterLoop fr.fn fr.tmps ps as bd fr.roundOf).run P w=.ok ((w.alloc (.deferred (some []))).heap.size,[{ target:=.collected w.heap.size,args:=#[] }]) ((w.alloc (.deferred (some []))).alloc (.loop r)):=by
      rw [hround]
      simp [Instr.enterLoop,r]
     refine ⟨_,nx+2,_,fr0::frs,_,.one ?_,hM',?_⟩
     ·have:=Z5h (cs:=frs++base) (vs:=⟨vs⟩) hm ht hen hy (Z2l he _)
      rw [this]
      have hargs:(#[Value.func (.yield (w.alloc (.deferred (some []))).heap.size) #[] #[]]++(⟨vs⟩:Array Value))=⟨Value.func (.yield (w.alloc (.deferred (some []))).heap.size) #[] #[]::vs⟩:=by
       apply Array.ext';simp
      rw [hargs];rfl
     ·rw [h1,h2];exact hG.zero
  ·cases h
 ·rename_i l0 hr
  rw [hr] at hround
  obtain ⟨c0,hl0,hrc⟩:=hround
  unfold rfIn at h
  split at h
  ·rename_i st pend fn nt tm' ps' as' bd' df g l hb hf
   obtain ⟨r0,hob,hgl,_,_,_,_,_,_,_,h8⟩:=Z2m hM.sr hl0 hb
   have hvr:=hev f _ hf
   generalize hy:fr.eval f=y at hvr
   cases hvr with
   | clo hl=>
     rename_i vs
     let r:Loop:={ state:=.ready,pending:=none,fn:=fr.fn,tmps:=fr.tmps,params:=ps,assign:=as,body:=bd,defers:=r0.defers }
     have hle1:e.le (e.add nx w.heap.size none):=Env.le_add hfr.1 hfr.2.1
     obtain ⟨hS1,hG1⟩:=hM.sr.new (blk:=.loop .ready none fx.fn fx.nt tm ps.toList as bd df) (obj:=.loop r) (k:=none)
      ⟨rfl,rfl,hF.fn,hF.tm.mono hle1,rfl,rfl,rfl,hle1.ρ _ _ h8⟩
     have hc1:(e.add nx w.heap.size none).ρ nx=some w.heap.size:=Env.ρ_add_same
     let fr0:Frame:={ fr with todo:=.inRangeFunc w.heap.size::t',defers:=[]++fr.defers }
     have hF0:FP (e.add nx w.heap.size none) ⟨fx,tm,.inRF nx::k,defs,false⟩ fr0:=
      ⟨⟨hF.fn,hF.kind,hF.mode,by dsimp only;rw [hr];exact ⟨c0,hle1.ρ _ _ hl0,hrc⟩,hF.defs.mono hle1⟩,hF.tm.mono hle1,.cons (.inRF hc1) (hk.mono hle1)⟩
     obtain ⟨he,hM',h1,h2⟩:=Y1z (lo:=lo) hS1 (Nat.le_trans hM.lob (Nat.le_add_right nx 1)) (.inl hF0) (hM.cs.goes (hG1.down hM.lob)) (.cons (.yld hc1) (hl.mono hle1)) h
     intro base
     have hen:(Instr.enterLoop fr.fn fr.tmps ps as bd fr.roundOf).run P w=.ok (w.heap.size,[]) (w.alloc (.loop r)):=by
      rw [hrc]
      simp [Instr.enterLoop,hgl,r]
     refine ⟨_,nx+1,_,fr0::frs,_,.one ?_,hM',?_⟩
     ·have:=Z5h (cs:=frs++base) (vs:=⟨vs⟩) hm ht hen hy (Z2l he _)
      rw [this]
      have hargs:(#[Value.func (.yield w.heap.size) #[] #[]]++(⟨vs⟩:Array Value))=⟨Value.func (.yield w.heap.size) #[] #[]::vs⟩:=by
       apply Array.ext';simp
      rw [hargs];rfl
     ·rw [h1,h2];exact hG1.zero
  ·cases h
theorem Y4E {l:Nat} {s':AS} (hM:MR P e lo ⟨⟨fx,tm,.endRF l::k,defs,false⟩,cs,hp,nx⟩ fr frs w) (hF:FP e ⟨fx,tm,.endRF l::k,defs,false⟩ fr)
 (h:endRFA fx tm k defs cs hp nx l (hp.get l)=some s'):Sim P e ⟨⟨fx,tm,.endRF l::k,defs,false⟩,cs,hp,nx⟩ fr frs w s':=by
 have hm:=hF.toFB.runs
 obtain ⟨i,t',ht,hi,hk⟩:=hF.todo.cons_inv
 cases hi with
 | endRF hl=>
   rename_i c
   unfold endRFA at h
   split at h
   ·rename_i st pend fn nt tm' ps as bd df hb
    obtain ⟨r,hob,hgl,h1,h2,h3,h4,h5,h6,h7,h8⟩:=Z2m hM.sr hl hb
    split at h
    ·cases h
    ·rename_i hnb
     simp at h;subst h
     have hne:(r.state == .busy)=false:=by
      rw [h1]
      cases st<;>first|rfl|(simp [isBusy] at hnb)
     have hBR:BR P e l (.loop .exhausted pend fn nt tm' ps as bd df) (.loop { r with state:=.exhausted }):=⟨rfl,h2,h3,h4,h5,h6,h7,h8⟩
     obtain ⟨hS',hG⟩:=hM.sr.setB hl hb hob hBR
     have hend:(Instr.endLoop c).run P w=.ok r.pending (setB w c (.loop { r with state:=.exhausted })):=by
      simp only [Instr.endLoop,Sem.run_bind,hgl,Result.andThen_ok,hne]
      rw [if_neg (by simp)]
      simp only [Sem.run_bind,Z09 hob (fun _ _ _=>by simp),Sem.run_pure,Result.andThen_ok]
     intro base
     refine ⟨e,lo,_,frs,_,.one (Y6l hm ht hend),⟨hS',hM.lob,.inl ⟨⟨hF.fn,hF.kind,hF.mode,hF.round,hF.defs⟩,hF.tm,?_⟩,hM.cs.goes (hG lo)⟩,hG 0⟩
     rw [h2]
     cases pend with
     | none=>exact hk
     | some c=>exact .cons (.code c) hk
   ·cases h
theorem Y4F {s':AS} (hM:MR P e lo ⟨⟨fx,tm,.beginRound::k,defs,false⟩,cs,hp,nx⟩ fr frs w) (hF:FP e ⟨fx,tm,.beginRound::k,defs,false⟩ fr)
 (h:beginIf fx tm k defs cs hp nx fx.round=some s'):Sim P e ⟨⟨fx,tm,.beginRound::k,defs,false⟩,cs,hp,nx⟩ fr frs w s':=by
 have hm:=hF.toFB.runs
 obtain ⟨i,t',ht,hi,hk⟩:=hF.todo.cons_inv
 cases hi
 have hround:=hF.round
 dsimp only at hround
 unfold beginIf at h
 split at h
 ·rename_i l hr
  rw [hr] at hround
  obtain ⟨c,hl,hrc⟩:=hround
  unfold beginA at h
  split at h
  ·rename_i pend fn nt tm' ps as bd df hb
   simp at h;subst h
   obtain ⟨r,hob,hgl,h1,h2,h3,h4,h5,h6,h7,h8⟩:=Z2m hM.sr hl hb
   have hBR:BR P e l (.loop .busy pend fn nt tm' ps as bd df) (.loop { r with state:=.busy }):=⟨rfl,h2,h3,h4,h5,h6,h7,h8⟩
   obtain ⟨hS',hG⟩:=hM.sr.setB hl hb hob hBR
   have hrun:(Instr.beginRound c).run P w=.ok () (setB w c (.loop { r with state:=.busy })):=by
    simp only [Instr.beginRound,Sem.run_bind,hgl,Result.andThen_ok,Z09 hob (fun _ _ _=>by simp),h1]
    rfl
   intro base
   refine ⟨e,lo,_,frs,_,.one (Z78 hm hrc ht hrun),⟨hS',hM.lob,.inl ⟨⟨hF.fn,hF.kind,hF.mode,?_,hF.defs⟩,hF.tm,hk⟩,hM.cs.goes (hG lo)⟩,hG 0⟩
   dsimp only
   rw [hr];exact ⟨c,hl,hrc⟩
  ·cases h
 ·cases h
end Go.Sy
