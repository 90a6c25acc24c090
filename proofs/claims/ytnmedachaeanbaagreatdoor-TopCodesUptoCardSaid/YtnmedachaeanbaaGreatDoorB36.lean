/- Merged texts. -/
import Derived.Laws.Append
import Derived.Laws.BytesString
import Derived.Test.YtnmedachaeanbaaGreatDoorB35
set_option linter.unusedVariables false
set_option linter.unusedSimpArgs false
namespace Go.Sy
def Gives (P:Program) (e:Env) (w:World) (ρ:Operand→Value) (o:Oper) (id:Nat) (v:AV):Option Blk→Prop
 | none => ∃ v',(execOp ρ o).run P w=.ok (.value v') w∧VR e v v'
 | some b => ∃ v' obj,(execOp ρ o).run P w=.ok (.value v') (w.alloc obj) ∧
  ∀ e',e.le e'→e'.ρ id=some w.heap.size→e'.κ id=none→BR P e' id b obj∧VR e' v v'
def GivesO (P:Program) (e:Env) (w:World) (ρ:Operand→Value) (o:Oper) (id:Nat) (r:Option (AV×Option Blk)):Prop:=
 ∀ v b,r=some (v,b)→Gives P e w ρ o id v b
variable {P:Program} {e:Env} {w:World} {ρ:Operand→Value} {ev:Operand→Option AV} {H:Nat→Option Blk} {id:Nat} {o:Oper}
theorem GivesO.none:GivesO P e w ρ o id none:=fun _ _ h=>by cases h
theorem Z9a:∀ (s:Sem Next) (v:Value),pureRun P s=some v→s.run P w=.ok (.value v) w:=by
 intro s
 induction s with
 | pure a=>intro v h;cases a<;>simp [pureRun] at h;simp [Sem.run,h]
 | program k ih=>intro v h;exact ih P v (by simpa [pureRun] using h)
 | _=>intro v h;simp [pureRun] at h
theorem Y53 (hev:∀ x a,ev x=some a→VR e a (ρ x)) {l:List Operand} (h:allGnd ev l=true):∀ x∈l,toVal ev x=ρ x:=by
 intro x hx
 unfold allGnd at h
 rw [List.all_eq_true] at h
 have:=h x hx
 cases he:ev x with
 | none=>simp [he] at this
 | some a=>
   simp only [he] at this
   cases hg:gnd a with
   | none=>simp [hg] at this
   | some u=>simp [toVal,he,hg];exact (Y8J (hev x a he) hg).symm
theorem Z73 (hev:∀ x a,ev x=some a→VR e a (ρ x)) (hs:∀ cs b,o.op ≠ .select cs b) {v:Value} (h:groundOp P ev o=some v) :
 (execOp ρ o).run P w=.ok (.value v) w:=by
 unfold groundOp at h
 cases hg:allGnd ev o.op.operands.toList with
 | false=>simp [hg] at h
 | true=>
   simp only [hg] at h
   rw [←execOp_congr o hs fun x hx=>Y53 hev hg x (by simpa using hx)]
   exact Z9a _ v h
theorem Z0Q (hev:∀ x a,ev x=some a→VR e a (ρ x)) (hs:∀ cs b,o.op ≠ .select cs b):GivesO P e w ρ o id (vConv (groundOp P ev o)):=by
 intro v b h
 cases hg:groundOp P ev o with
 | none=>simp [hg,vConv] at h
 | some u=>
   simp [hg,vConv] at h
   obtain ⟨rfl,rfl⟩:=h
   exact ⟨u,Z73 hev hs hg,Y0f e u⟩
theorem Z1k {r:Option AV} (h:∀ a,r=some a→∃ v',(execOp ρ o).run P w=.ok (.value v') w∧VR e a v'):GivesO P e w ρ o id (vOnly r):=by
 intro v b hr
 cases r with
 | none=>cases hr
 | some a=>simp [vOnly] at hr;obtain ⟨rfl,rfl⟩:=hr;exact h a rfl
theorem VR.bool {t:Bool} {v:Value} (h:VR e (.lit (.bool t)) v):v=.bool t:=by cases h;rfl
variable {dst:Option Tmp} {ty:TypeId} {pos:String} {aft:Array Edge} {gd:Option (Nat×Bool)}
theorem Y7H (hev:∀ x a,ev x=some a→VR e a (ρ x)) (x:Operand):GivesO P e w ρ ⟨dst,.move x,ty,pos,aft,gd⟩ id (vOnly (ev x)):=
 Z1k fun a ha=>⟨ρ x,by simp [execOp],hev x a ha⟩
theorem Y4l (hev:∀ x a,ev x=some a→VR e a (ρ x)) (x:Operand):GivesO P e w ρ ⟨dst,.assign x,ty,pos,aft,gd⟩ id (vOnly (ev x)):=
 Z1k fun a ha=>⟨ρ x,by simp [execOp],hev x a ha⟩
theorem Y7I (hev:∀ x a,ev x=some a→VR e a (ρ x)) (c a b:Operand):GivesO P e w ρ ⟨dst,.pick c a b,ty,pos,aft,gd⟩ id (flPick ev a b (ev c)):=by
 intro v bl h
 unfold flPick at h
 split at h
 ·rename_i hc
  have:=(hev c _ hc).bool
  exact Z1k (fun y hy=>⟨ρ a,by simp [execOp,this,asBool],hev a y hy⟩) v bl h
 ·rename_i hc
  have:=(hev c _ hc).bool
  exact Z1k (fun y hy=>⟨ρ b,by simp [execOp,this,asBool],hev b y hy⟩) v bl h
 ·cases h
theorem BR.ofCells {e':Env} {t:TypeId} {l:List AV} {vs:List Value} (h:VRs e' l vs) (hk:e'.κ id=none):BR P e' id (.cells t l) (.cells ⟨vs⟩ t):=by
 refine ⟨rfl,fun i a ha=>?_,.inl rfl,fun n hn=>by rw [hk] at hn;cases hn⟩
 obtain ⟨v,hv,hr⟩:=h.get ha
 exact ⟨v,by simpa using hv,hr⟩
theorem Z4W {a:AV} {v:Value} (h:VR e a v):VRs e (cellsOf a) v.cells.toList:=by
 cases h with
 | lit v=>exact VRs.lits _
 | agg h=>exact h
 | ptr h=>exact .cons (.ptr h) .nil
 | slc h hl hc=>exact .cons (.slc h hl hc) .nil
 | slcU h hk hl=>exact .cons (.slcU h hk hl) .nil
 | slcA h hl=>exact .cons (.slcA h hl) .nil
 | slcE h=>exact .cons (.slcE h) .nil
 | clo h=>exact .cons (.clo h) .nil
 | yld h=>exact .cons (.yld h) .nil
 | mp h=>exact .cons (.mp h) .nil
 | tup h=>exact .cons (.tup h) .nil
theorem Y54 (t:TypeId):GivesO P e w ρ ⟨dst,.alloc t,ty,pos,aft,gd⟩ id (flAlloc t id (zeroT P t)):=by
 intro v bl h
 unfold flAlloc at h
 split at h
 ·rename_i l hl
  simp at h
  obtain ⟨rfl,rfl⟩:=h
  obtain ⟨z,hz,rfl,_⟩:=Z5e (w:=w) hl
  refine ⟨_,.cells z.cells t,by simp [execOp,Instr.alloc,hz,newVar,newRow],fun e' _ hr hk=>⟨?_,.ptr hr⟩⟩
  have:z.cells=⟨z.cells.toList⟩:=rfl
  rw [this]
  exact BR.ofCells (VRs.lits _) hk
 ·cases h
theorem Y8K (hev:∀ x a,ev x=some a→VR e a (ρ x)) (t:TypeId) (x:Operand):GivesO P e w ρ ⟨dst,.box t x,ty,pos,aft,gd⟩ id (flBox t id (ev x)):=by
 intro v bl h
 unfold flBox at h
 split at h
 ·rename_i a ha
  simp at h
  obtain ⟨rfl,rfl⟩:=h
  refine ⟨_,.cells (ρ x).cells t,by simp [execOp,Instr.box,newVar,newRow],fun e' hle hr hk=>⟨?_,.ptr hr⟩⟩
  exact BR.ofCells (Z4W ((hev x a ha).mono hle)) hk
 ·cases h
theorem Y7J (hev:∀ x a,ev x=some a→VR e a (ρ x)) (hH:HR P e H w) (t:TypeId) (x:Operand):GivesO P e w ρ ⟨dst,.load t x,ty,pos,aft,gd⟩ id (flLoad P H t (ev x)):=by
 intro v bl h
 unfold flLoad at h
 split at h
 ·rename_i b off hx
  refine Z1k (fun a ha=>?_) v bl h
  have h1:=hev x _ hx
  generalize hy:ρ x=y at h1
  cases h1 with
  | ptr hb=>
    obtain ⟨v',hv,hr⟩:=Z3X hH hb ha
    exact ⟨v',by simp [execOp,Instr.loadAt,hy,Instr.sureAddr,hr],hv⟩
 ·cases h
theorem Y8L (hev:∀ x a,ev x=some a→VR e a (ρ x)) (x:Operand):GivesO P e w ρ ⟨dst,.nilCheck x,ty,pos,aft,gd⟩ id (flNil P ev ⟨dst,.nilCheck x,ty,pos,aft,gd⟩ (ev x)):=by
 intro v bl h
 unfold flNil at h
 split at h
 ·rename_i b off hx
  simp at h;obtain ⟨rfl,rfl⟩:=h
  have h1:=hev x _ hx
  generalize hy:ρ x=y at h1
  cases h1 with
  | ptr hb=>exact ⟨_,by simp [execOp,hy],.ptr hb⟩
 ·rename_i f l hx
  simp at h;obtain ⟨rfl,rfl⟩:=h
  have h1:=hev x _ hx
  generalize hy:ρ x=y at h1
  cases h1 with
  | clo hb=>exact ⟨_,by simp [execOp,hy],.clo hb⟩
 ·exact Z0Q hev (fun _ _=>by simp) v bl h
end Go.Sy
namespace Go.Sy
variable {P:Program} {e:Env} {w:World} {ρ:Operand→Value} {ev:Operand→Option AV} {H:Nat→Option Blk} {id:Nat} {o:Oper}
variable {dst:Option Tmp} {ty:TypeId} {pos:String} {aft:Array Edge} {gd:Option (Nat×Bool)}
theorem VR.int {k:IntKind} {n:Int} {v:Value} (h:VR e (.lit (.int k n)) v):v=.int k n:=by cases h;rfl
theorem Y2w {op:BinOp} {a b:Nat} {t:Bool} (h:cmpA op a b=some t) (w:World):(Op.intCmp op (.ofNat a) (.ofNat b)).run P w=.ok (.bool t) w:=by
 have hb:∀ x y:Nat,Nat.beq x y=decide (x=y):=fun x y=>by
  by_cases hxy:x=y
  ·subst hxy;simp
  ·have:Nat.beq x y=false:=by
    cases hq:Nat.beq x y with
    | false=>rfl
    | true=>exact absurd (Nat.eq_of_beq_eq_true hq) hxy
   simp [this,hxy]
 have hl:∀ x y:Nat,Nat.ble x y=decide (x≤y):=fun x y=>by
  by_cases hxy:x≤y
  ·simp [hxy]
  ·have:Nat.ble x y=false:=by
    cases hq:Nat.ble x y with
    | false=>rfl
    | true=>exact absurd (Nat.le_of_ble_eq_true hq) hxy
   simp [this,hxy]
 have hlt:∀ x y:Nat,Nat.blt x y=decide (x<y):=fun x y=>hl (x+1) y
 cases op<;>simp only [cmpA,Option.some.injEq,reduceCtorEq] at h<;>subst h<;>simp only [Op.intCmp,Sem.run_pure,Result.ok.injEq,Value.bool.injEq,and_true,hb,hl,hlt]
 ·by_cases h:a=b
  ·subst h;simp
  ·have:(Int.ofNat a)≠Int.ofNat b:=fun h9=>h (Int.ofNat.inj h9)
   simp only [h,decide_false];exact beq_eq_false_iff_ne.2 this
 ·by_cases h:a=b
  ·subst h;simp
  ·have:(Int.ofNat a)≠Int.ofNat b:=fun h9=>h (Int.ofNat.inj h9)
   simp only [h,decide_false,bne,beq_eq_false_iff_ne.2 this]
 ·simp
 ·simp
 ·simp
 ·simp
theorem Z3Q {n:Int} (h0:0≤n) (h1:n≤4611686018427387904):IntKind.wrap .i64 n=n:=by
 have:IntKind.wrap .i64 n=if (n % 18446744073709551616)≥9223372036854775808 then n % 18446744073709551616-18446744073709551616 else n % 18446744073709551616:=by
  simp [IntKind.wrap,IntKind.bits,IntKind.signed]
 rw [this];split<;>omega
theorem Y0i {op:BinOp} {t:TypeId} {x y:Operand} {k:IntKind} {a b:Nat} {tt:Bool} (hc:cmpA op a b=some tt) (w:World) :
 (do eqGuard op t x y (.int k (.ofNat a)) (.int k (.ofNat b));binOp op t (.int k (.ofNat a)) (.int k (.ofNat b)):Sem Value).run P w=.ok (.bool tt) w:=by
 have h:=Y2w (P:=P) hc w
 cases op<;>first
  | (simp [cmpA] at hc;done)
  | (simp only [eqGuard,binOp,Sem.run_bind];simpa using h)
theorem Z4t {op:BinOp} {t:TypeId} {x y:Operand} {k:IntKind} {a b:Int} (ho:op=.add∨op=.sub) (w:World) :
 (do eqGuard op t x y (.int k a) (.int k b);binOp op t (.int k a) (.int k b):Sem Value).run P w=(Op.intArith op k a b).run P w:=by
 rcases ho with rfl|rfl<;>simp [eqGuard,binOp]
def Z6A:Value→Value→Bool
 | .pointer (some _),.pointer none | .pointer none,.pointer (some _)=>true
 | .slice (some _) _ _,.slice none _ _ | .slice none _ _,.slice (some _) _ _=>true
 | .func ..,.nilFunc | .nilFunc,.func .. => true
 | .map (some _),.map none | .map none,.map (some _)=>true
 | _,_=>false
theorem Y0j {vx vy:Value} (h:Z6A vx vy=true) (t:TypeId) :
 binOp .eql t vx vy=(do pure (.bool (←Op.equal t vx vy)))∧binOp .neq t vx vy=(do pure (.bool (!(←Op.equal t vx vy)))):=by
 unfold Z6A at h
 split at h<;>first
  | (cases h;done)
  | exact ⟨rfl,rfl⟩
theorem Z4u {vx vy:Value} (h:Z6A vx vy=true) (op:BinOp) (t:TypeId) (x y:Operand):eqGuard op t x y vx vy=pure ():=by
 unfold Z6A at h
 split at h<;>first
  | (cases h;done)
  | (cases op<;>rfl)
theorem Y4m {d:Option TypeDesc} {a b:AV} {t:TypeId} {vx vy:Value} (w:World) (hn:eqNil d a b=true) (hd:undA P t=d) (h1:VR e a vx) (h2:VR e b vy) :
 Z6A vx vy=true∧∀ n,(Op.equalIn (n+1) t vx vy).run P w=.ok false w:=by
 unfold eqNil at hn
 split at hn<;>first
  | (cases hn;done)
  | (cases h1<;>cases h2<;>refine ⟨rfl,fun n=>?_⟩<;>unfold Op.equalIn<;>rw [Sem.run_bind,Z0w hd]<;>rfl)
theorem Y8M (hev:∀ x a,ev x=some a→VR e a (ρ x)) (op:BinOp) (t:TypeId) (x y:Operand) (yt:TypeId) :
 GivesO P e w ρ ⟨dst,.binOp op t x y yt,ty,pos,aft,gd⟩ id (flBin P ev ⟨dst,.binOp op t x y yt,ty,pos,aft,gd⟩ op t (ev x) (ev y)):=by
 intro v bl h
 have hs:∀ cs b,(⟨dst,.binOp op t x y yt,ty,pos,aft,gd⟩:Oper).op ≠ .select cs b:=fun _ _=>by simp
 unfold flBin at h
 split at h
 ·rename_i j a k b hx hy
  have h1:=(hev x _ hx).int
  have h2:=(hev y _ hy).int
  split at h
  ·rename_i hjk
   have hjk:j=k:=by simpa using hjk
   subst hjk
   unfold flInt at h
   split at h
   ·rename_i tt hc
    simp at h;obtain ⟨rfl,rfl⟩:=h
    refine ⟨.bool tt,?_,.lit _⟩
    simp only [execOp,h1,h2]
    rw [Sem.run_bind,Y0i hc];rfl
   ·split at h
    ·rename_i hi
     have hj:j=.i64:=by cases j<;>simp [isI64] at hi;rfl
     subst hj
     unfold flArith at h
     split at h
     ·split at h
      ·rename_i hle
       simp at h;obtain ⟨rfl,rfl⟩:=h
       have hle:a+b≤4611686018427387904:=by simpa using hle
       refine ⟨_,?_,.lit _⟩
       simp only [execOp,h1,h2]
       rw [Sem.run_bind,Z4t (by simp)]
       simp only [Op.intArith,Sem.run_pure,Result.andThen_ok]
       rw [Z3Q (by simp;omega) (by simp;omega)]
       simp
      ·exact Z0Q hev hs v bl h
     ·split at h
      ·rename_i hle
       simp at h;obtain ⟨rfl,rfl⟩:=h
       simp only [Bool.and_eq_true,Nat.ble_eq] at hle
       have h9:a≤4611686018427387904:=by simpa using hle.2
       refine ⟨_,?_,.lit _⟩
       simp only [execOp,h1,h2]
       rw [Sem.run_bind,Z4t (by simp)]
       simp only [Op.intArith,Sem.run_pure,Result.andThen_ok]
       have hle1:=hle.1
       have hsub:(Int.ofNat a-Int.ofNat b)=Int.ofNat (a-b):=by simp;omega
       rw [hsub,Z3Q (by simp) (by simp;omega)]
       rfl
      ·exact Z0Q hev hs v bl h
     ·exact Z0Q hev hs v bl h
    ·exact Z0Q hev hs v bl h
  ·exact Z0Q hev hs v bl h
 ·rename_i a b _ hx hy
  split at h
  ·rename_i hn
   obtain ⟨g1,g2⟩:=Y4m w hn rfl (hev x _ hx) (hev y _ hy)
   have g4:(Op.equal t (ρ x) (ρ y)).run P w=.ok false w:=g2 9999
   have g5:=Y0j g1 t
   have hop:op=.eql∨op=.neq:=by
    unfold refNil at h
    split at h
    ·exact .inl rfl
    ·exact .inr rfl
    ·cases h
   rcases hop with rfl|rfl
   ·simp [refNil] at h;obtain ⟨rfl,rfl⟩:=h
    refine ⟨.bool false,?_,.lit _⟩
    simp only [execOp,Z4u g1,g5.1]
    simp [g4]
   ·simp [refNil] at h;obtain ⟨rfl,rfl⟩:=h
    refine ⟨.bool true,?_,.lit _⟩
    simp only [execOp,Z4u g1,g5.2]
    simp [g4]
  ·exact Z0Q hev hs v bl h
 ·cases h
theorem Y7K (hev:∀ x a,ev x=some a→VR e a (ρ x)) (op:UnOp) (t:TypeId) (x:Operand) :
 GivesO P e w ρ ⟨dst,.unOp op t x,ty,pos,aft,gd⟩ id (vConv (groundOp P ev ⟨dst,.unOp op t x,ty,pos,aft,gd⟩)):=
 Z0Q hev (fun _ _=>by simp)
theorem Y1k (hev:∀ x a,ev x=some a→VR e a (ρ x)):∀ (l:List Operand) (as:List AV),evL ev l=some as→VRs e as (l.map ρ)
 | [],as,h=>by simp [evL] at h;subst h;exact .nil
 | x::l,as,h=>by
   simp only [evL] at h
   split at h
   ·rename_i v t hv ht
    simp at h;subst h
    exact .cons (hev x v hv) (Y1k hev l t ht)
   ·cases h
theorem Y7L (hev:∀ x a,ev x=some a→VR e a (ρ x)) (f:Fn) (first captured:Array Operand) :
 GivesO P e w ρ ⟨dst,.makeFunc f first captured,ty,pos,aft,gd⟩ id (flMakeFunc ev first captured f):=by
 intro v bl h
 unfold flMakeFunc at h
 split at h
 ·rename_i f
  unfold flFunc at h
  split at h
  ·rename_i l hf hl
   simp at h;obtain ⟨rfl,rfl⟩:=h
   have hfirst:first=#[]:=by simpa using hf
   subst hfirst
   refine ⟨.func (.func f) #[] (captured.map ρ),by simp [execOp,Instr.makeFunc],?_⟩
   have:=Y1k hev _ _ hl
   have h2:captured.map ρ=⟨captured.toList.map ρ⟩:=by rw [←Array.toList_map]
   rw [h2]
   exact .clo this
  ·cases h
 ·cases h
theorem Y2x (t:TypeId) (r:Option Operand):GivesO P e w ρ ⟨dst,.makeMap t r,ty,pos,aft,gd⟩ id (flMakeMap id r):=by
 intro v bl h
 unfold flMakeMap at h
 split at h
 ·simp at h;obtain ⟨rfl,rfl⟩:=h
  exact ⟨_,.map #[] 0,by simp [execOp,Instr.makeMap],fun e' _ hr _=>⟨⟨trivial,rfl⟩,.mp hr⟩⟩
 ·cases h
theorem Y2y (hev:∀ x a,ev x=some a→VR e a (ρ x)) (x:Operand) (i:Nat):GivesO P e w ρ ⟨dst,.extract x i,ty,pos,aft,gd⟩ id (flExtract i (ev x)):=by
 intro v bl h
 unfold flExtract at h
 split at h
 ·rename_i l hx
  refine Z1k (fun a ha=>?_) v bl h
  have h1:=hev x _ hx
  generalize hy:ρ x=y at h1
  cases h1 with
  | tup hl=>
    rw [Z3P,List.head?_drop] at ha
    obtain ⟨u,hu,hr⟩:=hl.get ha
    exact ⟨u,by simp [execOp,hy,Instr.extract,hu],hr⟩
 ·cases h
end Go.Sy
namespace Go.Sy
variable {P:Program} {e:Env} {w:World} {ρ:Operand→Value} {ev:Operand→Option AV} {H:Nat→Option Blk} {id:Nat} {o:Oper}
variable {dst:Option Tmp} {ty:TypeId} {pos:String} {aft:Array Edge} {gd:Option (Nat×Bool)}
theorem VRs.drop {e:Env}:∀ (n:Nat) {l:List AV} {vs:List Value},VRs e l vs→VRs e (l.drop n) (vs.drop n)
 | 0,_,_,h=>by simpa using h
 | n+1,_,_,.nil=>by simpa using VRs.nil
 | n+1,_,_,.cons _ t=>by simpa using VRs.drop n t
theorem VRs.take {e:Env}:∀ (n:Nat) {l:List AV} {vs:List Value},VRs e l vs→VRs e (l.take n) (vs.take n)
 | 0,_,_,_=>by simpa using VRs.nil
 | n+1,_,_,.nil=>by simpa using VRs.nil
 | n+1,_,_,.cons h t=>by simpa using VRs.cons h (VRs.take n t)
theorem Y1l {l:List AV} {vs:List Value} {t:TypeId} {off:Nat} {a:AV} (w:World) (hl:VRs e l vs) (h:partA P t l off=some a):∃ v,(part t ⟨vs⟩ off).run P w=.ok v w∧VR e a v:=by
 unfold partA at h
 split at h
 ·rename_i hg
  split at h
  ·rename_i n hs
   split at h
   ·rename_i m hm
    simp at h;subst h
    rw [Z3P] at hm
    obtain ⟨_,rfl⟩:=Z2U _ _ _ hm
    refine ⟨.agg ⟨(vs.drop off).take n⟩,?_,.agg ((hl.drop off).take n)⟩
    have he:(Array.extract ⟨vs⟩ off (off+n))=(⟨(vs.drop off).take n⟩:Array Value):=by
     apply Array.ext';simp [List.extract]
    simp only [part,Sem.run_bind,Z4s hg,Result.andThen_ok,if_true,Z2j hs,Sem.run_pure,he]
   ·cases h
  ·cases h
 ·rename_i hg
  rw [Z3P,List.head?_drop] at h
  obtain ⟨v,hv,hr⟩:=hl.get h
  exact ⟨v,by simp [part,Z4s hg,hv],hr⟩
 ·cases h
theorem Y55 (hev:∀ x a,ev x=some a→VR e a (ρ x)) (t:TypeId) (x:Operand) (f:Nat):GivesO P e w ρ ⟨dst,.field t x f,ty,pos,aft,gd⟩ id (flField P f (ev x) (undA P t)):=by
 intro v bl h
 unfold flField at h
 split at h
 ·rename_i l fields hx hu
  split at h
  ·rename_i fd hf
   refine Z1k (fun a ha=>?_) v bl h
   have h1:=hev x _ hx
   generalize hy:ρ x=y at h1
   cases h1 with
   | agg hl=>
     obtain ⟨u,hu',hr⟩:=Y1l w hl ha
     exact ⟨u,by simp [execOp,hy,Instr.field,Z0w hu,hf,asAgg,hu'],hr⟩
  ·cases h
 ·cases h
theorem Z9b (hev:∀ x a,ev x=some a→VR e a (ρ x)) (s:TypeId) (x:Operand) (f:Nat):GivesO P e w ρ ⟨dst,.fieldAddr s x f,ty,pos,aft,gd⟩ id (flFieldAddr P f (ev x) (undA P s)):=by
 intro v bl h
 unfold flFieldAddr at h
 split at h
 ·rename_i b off fields hx hu
  split at h
  ·rename_i d n hp
   simp at h;obtain ⟨rfl,rfl⟩:=h
   unfold fieldPlaceA placeOf at hp
   split at hp
   ·rename_i fd hf
    split at hp
    ·rename_i m hs
     simp at hp
     obtain ⟨rfl,rfl⟩:=hp
     have h1:=hev x _ hx
     generalize hy:ρ x=y at h1
     cases h1 with
     | ptr hb=>exact ⟨_,by simp [execOp,hy,Instr.fieldAt,Z0w hu,hf,Instr.sureAddr,fieldPlace,Z2j hs,Z2F],.ptr hb⟩
    ·cases hp
   ·cases hp
  ·cases h
 ·cases h
theorem Z9c {a:Option AV} {n:Nat} (h:intA a=some n):∃ k,a=some (.lit (.int k (.ofNat n))):=by
 unfold intA at h
 split at h
 ·simp at h;subst h;exact ⟨_,rfl⟩
 ·cases h
theorem Z5f (hev:∀ x a,ev x=some a→VR e a (ρ x)) {x:Operand} {n:Nat} (h:intA (ev x)=some n):∃ k,ρ x=.int k (.ofNat n):=by
 obtain ⟨k,hk⟩:=Z9c h
 exact ⟨k,(hev x _ hk).int⟩
theorem Z9d (hev:∀ x a,ev x=some a→VR e a (ρ x)) (t:TypeId) (x ix:Operand):GivesO P e w ρ ⟨dst,.indexAddr t x ix,ty,pos,aft,gd⟩ id (flIndexAddr P (ev x) (undA P t) (intA (ev ix))):=by
 intro v bl h
 unfold flIndexAddr at h
 split at h
 ·rename_i b off len cap elem i hx hu hi
  split at h
  ·rename_i n hlt hs
   simp at h;obtain ⟨rfl,rfl⟩:=h
   have hlt:i<len:=by simpa [Nat.blt_eq] using hlt
   obtain ⟨k,hk⟩:=Z5f hev hi
   have h1:=hev x _ hx
   generalize hy:ρ x=y at h1
   have key:∀ c c',e.ρ b=some c→y=.slice (some ⟨c,off,none⟩) len c'→∃ v',(execOp ρ ⟨dst,.indexAddr t x ix,ty,pos,aft,gd⟩).run P w=.ok (.value v') w∧VR e (.ptr b (off+i*n)) v':=fun c c' hb hyy=>by
    subst hyy
    exact ⟨_,by simp [execOp,hy,hk,Instr.indexAt,asIntOf,Z0w hu,Z2j hs,hlt,Z2F],.ptr hb⟩
   cases h1 with
   | slc hb _ _=>exact key _ _ hb rfl
   | slcU hb _ _=>exact key _ _ hb rfl
   | slcA hb _=>exact key _ _ hb rfl
   | slcE hb=>omega
  ·cases h
 ·rename_i b off len elem i hx hu hi
  split at h
  ·rename_i n hlt hs
   simp at h;obtain ⟨rfl,rfl⟩:=h
   have hlt:i<len:=by simpa [Nat.blt_eq] using hlt
   obtain ⟨k,hk⟩:=Z5f hev hi
   have h1:=hev x _ hx
   generalize hy:ρ x=y at h1
   cases h1 with
   | ptr hb=>exact ⟨_,by simp [execOp,hy,hk,Instr.indexAt,asIntOf,Z0w hu,Z2j hs,hlt,Z2F,Instr.sureAddr],.ptr hb⟩
  ·cases h
 ·cases h
theorem Y58 (hev:∀ x a,ev x=some a→VR e a (ρ x)) (t:TypeId) (x ix:Operand) :
 GivesO P e w ρ ⟨dst,.index t x ix,ty,pos,aft,gd⟩ id (flIndex P ev ⟨dst,.index t x ix,ty,pos,aft,gd⟩ (ev x) (undA P t) (intA (ev ix))):=by
 intro v bl h
 unfold flIndex at h
 split at h
 ·rename_i l len elem i hx hu hi
  split at h
  ·rename_i n hlt hs
   have hlt:i<len:=by simpa [Nat.blt_eq] using hlt
   obtain ⟨k,hk⟩:=Z5f hev hi
   refine Z1k (fun a ha=>?_) v bl h
   have h1:=hev x _ hx
   generalize hy:ρ x=y at h1
   cases h1 with
   | agg hl=>
     obtain ⟨u,hu',hr⟩:=Y1l w hl ha
     exact ⟨u,by simp [execOp,hy,hk,Instr.index,asIntOf,Z0w hu,Z2j hs,hlt,hu'],hr⟩
  ·cases h
 ·exact Z0Q hev (fun _ _=>by simp) v bl h
/-! slices -/
theorem Y6N {k:IntKind} {n y:Nat} {code:BoundsCode} (w:World) (h:n≤y):(Instr.sliceBound (.int k (n:Int)) y code).run P w=.ok n w:=by
 simp [Instr.sliceBound,asIntOf,h]
theorem Y4n (hev:∀ x a,ev x=some a→VR e a (ρ x)) {d n:Nat} {x:Option Operand} (h:optInt ev d x=some n) :
 (x=none∧n=d)∨∃ y k,x=some y∧ρ y=.int k (.ofNat n):=by
 cases x with
 | none=>simp [optInt] at h;exact .inl ⟨rfl,h.symm⟩
 | some y=>obtain ⟨k,hk⟩:=Z5f hev h;exact .inr ⟨y,k,rfl,hk⟩
theorem Z4X (hev:∀ x a,ev x=some a→VR e a (ρ x)) {isS:Bool} {len cap l h:Nat} {lo hi:Option Operand} (w:World) (hlo:optInt ev 0 lo=some l) (hhi:optInt ev len hi=some h) (h1:l≤h) (h2:h≤cap) :
 (Instr.sliceBounds isS len cap (lo.map ρ) (hi.map ρ) none).run P w=.ok (l,h,cap) w:=by
 rcases Y4n hev hlo with ⟨rfl,rfl⟩ | ⟨y,k,rfl,hy⟩<;>rcases Y4n hev hhi with ⟨rfl,rfl⟩ | ⟨z,k',rfl,hz⟩ <;>
  simp [Instr.sliceBounds,Y6N, *]
theorem Y0k (hev:∀ x a,ev x=some a→VR e a (ρ x)) {isS:Bool} {len cap l h m:Nat} {lo hi mx:Option Operand} {c0:Nat} (w:World) (hlo:optInt ev 0 lo=some l) (hhi:optInt ev len hi=some h)
 (hm:mxInt ev c0 hi mx=some m) (hs:mx.isSome=true) (h1:l≤h) (h2:h≤m) (h3:m≤cap) :
 (Instr.sliceBounds isS len cap (lo.map ρ) (hi.map ρ) (mx.map ρ)).run P w=.ok (l,h,m) w:=by
 cases mx with
 | none=>cases hs
 | some x=>
   cases hi with
   | none=>cases hm
   | some z=>
     obtain ⟨k2,hk2⟩:=Z5f hev (show intA (ev x)=some m from hm)
     obtain ⟨k3,hk3⟩:=Z5f hev (show intA (ev z)=some h from hhi)
     rcases Y4n hev hlo with ⟨rfl,rfl⟩ | ⟨y,k,rfl,hy⟩<;>simp [Instr.sliceBounds,Y6N, *]
theorem Y2z {t elem:TypeId} {a:Option Addr} {len cap:Nat} {lo hi mx:Option Value} (w:World) (hu:undA P t=some (.slice elem)) :
 (Instr.sliceAt t (.slice a len cap) lo hi mx).run P w=(Instr.slice t (.slice a len cap) lo hi mx).run P w:=by
 simp [Instr.sliceAt,Z0w hu]
theorem Z06 {t elem:TypeId} {n c off len cap l h m:Nat} {lo hi mx:Option Value} (w:World) (hu:undA P t=some (.slice elem)) (hs:szT P elem=some n)
 (hb:(Instr.sliceBounds true len cap lo hi mx).run P w=.ok (l,h,m) w) :
 (Instr.sliceAt t (.slice (some ⟨c,off,none⟩) len cap) lo hi mx).run P w=.ok (.slice (some ⟨c,if m=l then off else off+l*n,none⟩) (h-l) (m-l)) w:=by
 rw [Y2z w hu]
 simp only [Instr.slice,Sem.run_bind,Z0w hu,Result.andThen_ok,hb,Z2j hs,Sem.run_pure]
 split<;>simp [Z2F]
theorem Z9e {cap len m:Nat} (h:slcMost cap len m=true):(cap<unk→m≤cap)∧(unk≤cap→m≤len∧cap≠noOff):=by
 unfold slcMost at h
 split at h
 ·rename_i hu
  have:=Nat.le_of_ble_eq_true hu
  simp only [Bool.and_eq_true,Bool.not_eq_true',Nat.ble_eq] at h
  refine ⟨fun h0=>by omega,fun _=>⟨h.1,fun h0=>?_⟩⟩
  subst h0
  simp at h
 ·rename_i hu
  refine ⟨fun _=>Nat.le_of_ble_eq_true h,fun h0=>?_⟩
  rw [Nat.ble_eq_true_of_le h0] at hu;cases hu
theorem Z4Y:unk<anyCap:=by decide
theorem Z3D:unk<noOff:=by decide
theorem off0 {n' off n:Nat}:(if n'=0 then off else off+0*n)=off:=by split<;>simp
theorem Y59 (hev:∀ x a,ev x=some a→VR e a (ρ x)) (t:TypeId) (x:Operand) (lo hi mx:Option Operand) :
 GivesO P e w ρ ⟨dst,.slice t x lo hi mx,ty,pos,aft,gd⟩ id (flSlice P ev ⟨dst,.slice t x lo hi mx,ty,pos,aft,gd⟩ t lo hi mx (ev x)):=by
 intro v bl h
 unfold flSlice at h
 split at h
 ·rename_i b off len cap hx
  split at h
  ·rename_i elem hu
   split at h
   ·rename_i n l hh m hs hlo hhi hm
    unfold sliceS at h
    split at h
    ·cases h
    ·rename_i hle
     have hle:l≤hh:=by simpa using hle
     have h1:=hev x _ hx
     generalize hy:ρ x=y at h1
     split at h
     ·rename_i hmu
      split at h
      ·rename_i hcond
       simp only [Bool.and_eq_true,Nat.ble_eq] at hcond
       obtain ⟨hhm,hmost⟩:=hcond
       simp at h;obtain ⟨rfl,rfl⟩:=h
       have hmu:m<unk:=by
        rcases Nat.lt_or_ge m unk with h'|h'
        ·exact h'
        ·rw [Nat.ble_eq_true_of_le h'] at hmu;cases hmu
       have hbeq:(match Nat.beq m l with|true=>off|false=>off+l*n)=if m=l then off else off+l*n:=by
        by_cases hml:m=l
        ·subst hml;simp
        ·have:Nat.beq m l=false:=by
          cases hq:Nat.beq m l with
          | false=>rfl
          | true=>exact absurd (Nat.eq_of_beq_eq_true hq) hml
         simp [this,hml]
       have fin:∀ c cap',e.ρ b=some c→y=.slice (some ⟨c,off,none⟩) len cap'→m≤cap'→(mx=none→m=cap') →
        ∃ v',(execOp ρ ⟨dst,.slice t x lo hi mx,ty,pos,aft,gd⟩).run P w=.ok (.value v') w∧VR e (.slc b (match Nat.beq m l with|true=>off|false=>off+l*n) (hh-l) (m-l)) v':=fun c cap' hb hyy hmc hnone=>by
        subst hyy
        have hbounds:(Instr.sliceBounds true len cap' (lo.map ρ) (hi.map ρ) (mx.map ρ)).run P w=.ok (l,hh,m) w:=by
         cases mx with
         | none=>rw [hnone rfl];exact Z4X hev w hlo hhi hle (hnone rfl ▸ hhm)
         | some z=>exact Y0k hev w hlo hhi hm rfl hle hhm hmc
        refine ⟨_,by simp only [execOp,hy,Sem.run_bind,Z06 w hu hs hbounds,Result.andThen_ok,Sem.run_pure];rfl,?_⟩
        rw [hbeq]
        exact .slc hb (by omega) (by omega)
       have hmost:=Z9e hmost
       have hmxn:mx=none→m=cap:=fun h0=>by subst h0;simp [mxInt] at hm;exact hm.symm
       cases h1 with
       | slc hb hl hc=>exact fin _ _ hb rfl (hmost.1 hc) hmxn
       | slcU hb hk hl=>exact fin _ _ hb rfl (by have:=(hmost.2 (Nat.le_refl _)).1;omega) (fun h0=>by have:=hmxn h0;omega)
       | slcA hb hl=>
         have hlt:=Z4Y
         exact fin _ _ hb rfl (by have:=(hmost.2 (Nat.le_of_lt hlt)).1;omega) (fun h0=>by have:=hmxn h0;omega)
       | slcE hb=>exact absurd rfl (hmost.2 (Nat.le_of_lt Z3D)).2
      ·cases h
     ·rename_i hmu
      split at h
      ·rename_i hcond
       simp only [Bool.and_eq_true,Bool.not_eq_true',Nat.ble_eq] at hcond
       obtain ⟨hnm,hhl⟩:=hcond
       have hmx:mx=none:=by cases mx<;>simp_all
       subst hmx
       simp [mxInt] at hm
       subst hm
       have hbounds:∀ cap',len≤cap'→(Instr.sliceBounds true len cap' (lo.map ρ) (hi.map ρ) (Option.map ρ none)).run P w=.ok (l,hh,cap') w:=fun cap' hc=>
        Z4X hev w hlo hhi hle (by omega)
       have hcap:unk≤cap:=by simpa using hmu
       split at h
       ·rename_i hl0
        have hl0:l=0:=Nat.eq_of_beq_eq_true hl0
        subst hl0
        simp at h;obtain ⟨rfl,rfl⟩:=h
        cases h1 with
        | slc hb hl hc=>omega
        | slcU hb hk hl=>
          exact ⟨_,by simp only [execOp,hy,Sem.run_bind,Z06 w hu hs (hbounds _ hl),Result.andThen_ok,Sem.run_pure];rfl,by rw [off0];exact .slcU hb hk (by omega)⟩
        | slcA hb hl=>
          exact ⟨_,by simp only [execOp,hy,Sem.run_bind,Z06 w hu hs (hbounds _ hl),Result.andThen_ok,Sem.run_pure];rfl,by rw [off0];exact .slcA hb (by omega)⟩
        | slcE hb=>
          have:hh=0:=by omega
          subst this
          exact ⟨_,by simp only [execOp,hy,Sem.run_bind,Z06 w hu hs (hbounds _ (Nat.zero_le _)),Result.andThen_ok,Sem.run_pure];rfl,.slcE hb⟩
       ·rename_i hl0
        have hl0:l≠0:=fun h0=>by subst h0;simp at hl0
        split at h
        ·rename_i hlt
         have hlt:l<len:=by simpa [Nat.blt_eq] using hlt
         simp at h;obtain ⟨rfl,rfl⟩:=h
         cases h1 with
         | slc hb hl hc=>omega
         | slcU hb hk hl=>
           rename_i c n'
           exact ⟨_,by simp only [execOp,hy,Sem.run_bind,Z06 w hu hs (hbounds _ hl),Result.andThen_ok,Sem.run_pure];rfl,by rw [if_neg (by omega)];exact .slcA hb (by omega)⟩
         | slcA hb hl=>
           exact ⟨_,by simp only [execOp,hy,Sem.run_bind,Z06 w hu hs (hbounds _ hl),Result.andThen_ok,Sem.run_pure];rfl,by rw [if_neg (by omega)];exact .slcA hb (by omega)⟩
         | slcE hb=>omega
        ·rename_i hlt
         have hlt:¬ l<len:=fun h0=>by rw [show Nat.blt l len=true by simpa [Nat.blt_eq] using h0] at hlt;cases hlt
         have hll:l=hh:=by omega
         subst hll
         simp at h;obtain ⟨rfl,rfl⟩:=h
         cases h1 with
         | slc hb hl hc=>omega
         | slcU hb hk hl=>
           exact ⟨_,by simp only [execOp,hy,Sem.run_bind,Z06 w hu hs (hbounds _ hl),Result.andThen_ok,Sem.run_pure];rfl,by rw [Nat.sub_self];exact .slcE hb⟩
         | slcA hb hl=>
           exact ⟨_,by simp only [execOp,hy,Sem.run_bind,Z06 w hu hs (hbounds _ hl),Result.andThen_ok,Sem.run_pure];rfl,by rw [Nat.sub_self];exact .slcE hb⟩
         | slcE hb=>omega
      ·cases h
   ·cases h
  ·cases h
 ·rename_i b off hx
  split at h
  ·rename_i m elem hu
   split at h
   ·rename_i n l hh hs hlo hhi
    unfold sliceA at h
    split at h
    ·rename_i hcond
     simp only [Bool.and_eq_true,Nat.ble_eq] at hcond
     obtain ⟨⟨hle,hhm⟩,hm40⟩:=hcond
     simp at h;obtain ⟨rfl,rfl⟩:=h
     have h1:=hev x _ hx
     generalize hy:ρ x=y at h1
     have hmu:m<unk:=by simp [unk];simp at hm40;omega
     cases h1 with
     | ptr hb=>
       rename_i c
       refine ⟨.slice (some ⟨c,if m=l then off else off+l*n,none⟩) (hh-l) (m-l),?_,?_⟩
       ·simp only [execOp,hy,Sem.run_bind,Instr.sliceAt,Z0w hu,Result.andThen_ok,Instr.sureAddr,Sem.run_pure,Z2j hs]
        have:=Z4X (P:=P) (isS:=false) hev w hlo hhi hle hhm
        simp only [Option.map_none,this,Result.andThen_ok,Z2j hs,Sem.run_pure]
        split<;>simp [Z2F]
       ·by_cases hml:m=l
        ·subst hml;simp;exact .slc hb (by omega) (by simp [unk])
        ·have:Nat.beq m l=false:=by
          cases hq:Nat.beq m l with
          | false=>rfl
          | true=>exact absurd (Nat.eq_of_beq_eq_true hq) hml
         simp only [this,if_neg hml]
         exact .slc hb (by omega) (by omega)
    ·cases h
   ·cases h
  ·cases h
 ·exact Z0Q hev (fun _ _=>by simp) v bl h
end Go.Sy
namespace Go.Sy
variable {P:Program} {e:Env} {w:World} {ρ:Operand→Value} {ev:Operand→Option AV} {H:Nat→Option Blk} {id:Nat} {o:Oper}
variable {dst:Option Tmp} {ty:TypeId} {pos:String} {aft:Array Edge} {gd:Option (Nat×Bool)}
theorem Y6O {m:Nat} (h:m≤1048576):m<unk:=Nat.lt_of_le_of_lt h (by decide)
/-! ### Built values -/
def PRs (e:Env):List (Nat×AV)→List (Nat×Value)→Prop
 | [],[]=>True
 | (i,a)::l,(j,v)::m=>i=j∧VR e a v∧PRs e l m
 | _,_=>False
theorem Z3R (hev:∀ x a,ev x=some a→VR e a (ρ x)):∀ (l:List (Nat×Operand)) (as:List (Nat×AV)),evPairs ev l=some as→PRs e as (l.map fun (i,x)=>(i,ρ x))
 | [],as,h=>by simp [evPairs] at h;subst h;trivial
 | (i,x)::l,as,h=>by
   simp only [evPairs] at h
   split at h
   ·rename_i v t hv ht
    simp at h;subst h
    exact ⟨rfl,hev x v hv,Z3R hev l t ht⟩
   ·cases h
theorem Y1m (off:Nat):∀ (vs:List Value) (k:Nat) (cs:Array Value),off+k+vs.length≤cs.size →
 ((vs.zipIdx k).foldl (fun (cs:Array Value) (x:Value×Nat)=>cs.setIfInBounds (off+x.2) x.1) cs).toList=cs.toList.take (off+k)++vs++cs.toList.drop (off+k+vs.length)
 | [],k,cs,_=>by simp
 | v::vs,k,cs,h=>by
   simp only [List.length_cons] at h
   have hlt:off+k<cs.toList.length:=by rw [Array.length_toList];omega
   have hl:(cs.toList.take (off+k)).length=off+k:=by rw [List.length_take];omega
   rw [List.zipIdx_cons,List.foldl_cons,Y1m off vs (k+1) _ (by simp;omega)]
   simp only [Array.toList_setIfInBounds,List.length_cons]
   rw [List.set_eq_take_append_cons_drop,if_pos hlt,show off+(k+1)=off+k+1 by omega,List.take_append,List.drop_append,hl,
    List.take_of_length_le (by omega),show off+k+1-(off+k)=1 by omega,show off+k+1+vs.length-(off+k)=vs.length+1 by omega,
    List.drop_of_length_le (l:=cs.toList.take (off+k)) (by omega)]
   simp [Nat.add_assoc,Nat.add_comm,Nat.add_left_comm]
theorem Z74 {place:Nat→Option (Nat×Nat)}:∀ (ps:List (Nat×AV)) (qs:List (Nat×Value)) (l:List AV) (cs:Array Value) (m:List AV),PRs e ps qs→VRs e l cs.toList→fillA place l ps=some m →
 ∃ ds,Instr.fill place cs qs=some ds∧VRs e m ds.toList
 | [],[],l,cs,m,_,hl,h=>by simp [fillA] at h;subst h;exact ⟨cs,rfl,hl⟩
 | [],_::_,_,_,_,hp,_,_=>hp.elim
 | _::_,[],_,_,_,hp,_,_=>by cases ‹Nat×AV›;exact hp.elim
 | (i,a)::ps,(j,v)::qs,l,cs,m,hp,hl,h=>by
   obtain ⟨rfl,hv,hps⟩:=hp
   simp only [fillA] at h
   split at h
   ·cases h
   ·rename_i off size hpl
    split at h
    ·rename_i hsz
     have hsz:=Nat.eq_of_beq_eq_true hsz
     split at h
     ·rename_i l' hl'
      obtain ⟨h1,h2⟩:=Z35 _ _ _ _ hl'
      have hc:=Z4W hv
      have hlen:=hc.length
      have hlen2:=hl.length
      have e1:v.cells.toList.length=v.cells.size:=Array.length_toList
      have e2:cs.toList.length=cs.size:=Array.length_toList
      have hb:off+0+v.cells.toList.length≤cs.size:=by omega
      have hf:=Y1m off v.cells.toList 0 cs hb
      have hrel:VRs e l' (v.cells.zipIdx.foldl (fun (cs:Array Value) (x:Value×Nat)=>cs.setIfInBounds (off+x.2) x.1) cs).toList:=by
       rw [←Array.foldl_toList,Array.toList_zipIdx,hf,h2,Nat.add_zero,←hc.length]
       exact ((hl.take off).append hc).append (hl.drop _)
      obtain ⟨ds,hds,hr⟩:=Z74 ps qs l' _ m hps hrel h
      refine ⟨ds,?_,hr⟩
      simp only [Instr.fill,hpl]
      rw [if_neg (by simp;omega)]
      exact hds
     ·cases h
    ·cases h
theorem Z3E {w:World}:∀ (fields:List Field),fields.all (fun (f:Field)=>(szT P f.type).isSome)=true →
 ∃ ps,((fields.mapM fun (f:Field)=>do pure (f.offset,←sizeOf f.type):Sem (List (Nat×Nat)))).run P w=.ok ps w∧∀ i:Nat,ps[i]? = placeOf P fields[i]?
 | [],_=>⟨[],by simp,by simp [placeOf]⟩
 | f::fs,h=>by
   simp only [List.all_cons,Bool.and_eq_true] at h
   obtain ⟨n,hn⟩:=Option.isSome_iff_exists.1 h.1
   obtain ⟨ps,hps,hi⟩:=Z3E (w:=w) fs h.2
   refine ⟨(f.offset,n)::ps,by rw [List.mapM_cons];simp only [Sem.run_bind,Z2j hn,Result.andThen_ok,Sem.run_pure,hps],fun i=>?_⟩
   cases i with
   | zero=>simp [placeOf,hn]
   | succ i=>simpa using hi i
theorem Y6a (hev:∀ x a,ev x=some a→VR e a (ρ x)) (t:TypeId) (parts:Array (Nat×Operand)) :
 GivesO P e w ρ ⟨dst,.build t parts,ty,pos,aft,gd⟩ id (flBuild P (evPairs ev parts.toList) (zeroT P t) (undA P t)):=by
 intro v bl h
 unfold flBuild at h
 split at h
 ·rename_i ps z fields hp hz hu
  split at h
  ·rename_i l hall hl
   simp at h;obtain ⟨rfl,rfl⟩:=h
   obtain ⟨zv,hzv,rfl,_⟩:=Z5e (w:=w) hz
   obtain ⟨places,hpl,hpi⟩:=Z3E (w:=w) fields.toList hall
   have hpr:=Z3R hev _ _ hp
   have hplace:fieldPlaceA P fields=(fun i=>(⟨places⟩:Array (Nat×Nat))[i]?):=by
    funext i
    simpa [fieldPlaceA] using (hpi i).symm
   rw [hplace] at hl
   obtain ⟨ds,hds,hr⟩:=Z74 ps _ _ zv.cells l hpr (VRs.lits _) hl
   refine ⟨.agg ds,?_,.agg hr⟩
   have hm:(fields.mapM fun (f:Field)=>do pure (f.offset,←sizeOf f.type):Sem (Array (Nat×Nat))).run P w=.ok ⟨places⟩ w:=by
    rw [Array.mapM_eq_mapM_toList]
    simp only [Sem.run_map,hpl,Result.andThen_ok]
   have hpt:(parts.map fun (i,x)=>(i,ρ x)).toList=parts.toList.map fun (i,x)=>(i,ρ x):=by simp
   simp only [execOp,Instr.build,Sem.run_bind,hzv,Result.andThen_ok,Z0w hu,hm,hpt,hds,Sem.run_pure]
  ·cases h
 ·rename_i ps z len elem hp hz hu
  split at h
  ·rename_i n hs
   split at h
   ·rename_i l hl
    simp at h;obtain ⟨rfl,rfl⟩:=h
    obtain ⟨zv,hzv,rfl,_⟩:=Z5e (w:=w) hz
    have hpr:=Z3R hev _ _ hp
    obtain ⟨ds,hds,hr⟩:=Z74 ps _ _ zv.cells l hpr (VRs.lits _) hl
    refine ⟨.agg ds,?_,.agg hr⟩
    have hpt:(parts.map fun (i,x)=>(i,ρ x)).toList=parts.toList.map fun (i,x)=>(i,ρ x):=by simp
    simp only [execOp,Instr.build,Sem.run_bind,hzv,Result.andThen_ok,Z0w hu,Z2j hs,hpt,hds,Sem.run_pure]
   ·cases h
  ·cases h
 ·cases h
theorem Y4o (l:List AV):∀ (n i:Nat),(rep l n)[i]? = if i<n*l.length then l[i % l.length]? else none
 | 0,i=>by simp [rep]
 | n+1,i=>by
   simp only [rep]
   by_cases hi:i<l.length
   ·rw [List.getElem?_append_left hi,Nat.mod_eq_of_lt hi,if_pos]
    rw [Nat.succ_mul];omega
   ·rw [List.getElem?_append_right (by omega),Y4o l n]
    have h1:i % l.length=(i-l.length) % l.length:=Nat.mod_eq_sub_mod (by omega)
    rw [h1,Nat.succ_mul]
    by_cases h2:i-l.length<n*l.length
    ·rw [if_pos h2,if_pos (by omega)]
    ·rw [if_neg h2,if_neg (by omega)]
theorem VRs.of_get {e:Env}:∀ {l:List AV} {vs:List Value},l.length=vs.length→(∀ (i:Nat) a v,l[i]? = some a→vs[i]? = some v→VR e a v)→VRs e l vs
 | [],[],_,_=>.nil
 | [],_::_,h,_=>by simp at h
 | _::_,[],h,_=>by simp at h
 | a::l,v::vs,h,hg=>.cons (hg 0 a v rfl rfl) (VRs.of_get (by simpa using h) fun i a v h1 h2=>hg (i+1) a v (by simpa using h1) (by simpa using h2))
theorem Z7k (l:List AV):∀ n,(rep l n).length=n*l.length
 | 0=>by simp [rep]
 | n+1=>by simp only [rep,List.length_append,Z7k l n,Nat.succ_mul];omega
theorem Z5F {e:Env} (z:Array Value) (n m:Nat) (hm:m=n*z.size):VRs e (rep (z.toList.map .lit) n) ((Array.range m).map (fun i=>z[i % z.size]!)).toList:=by
 subst hm
 refine VRs.of_get (by rw [Z7k];simp) fun i a v h1 h2=>?_
 rw [Y4o] at h1
 split at h1
 ·rename_i hi
  simp only [List.length_map,Array.length_toList] at h1 hi
  have hz:0<z.size:=by
   rcases Nat.eq_zero_or_pos z.size with h0|h0
   ·rw [h0] at hi;simp at hi
   ·exact h0
  have hlt:i % z.size<z.size:=Nat.mod_lt _ hz
  simp [hlt,hi] at h1 h2
  subst h1
  rw [←h2]
  exact .lit _
 ·cases h1
theorem Z75 (hev:∀ x a,ev x=some a→VR e a (ρ x)) (t:TypeId) (len:Nat) (parts:Array (Nat×Operand)) :
 GivesO P e w ρ ⟨dst,.buildSlice t len parts,ty,pos,aft,gd⟩ id (flBuildSlice P len id (evPairs ev parts.toList) (undA P t)):=by
 intro v bl h
 unfold flBuildSlice at h
 split at h
 ·rename_i ps elem hp hu
  split at h
  ·rename_i n z hs hz
   split at h
   ·rename_i hle
    split at h
    ·rename_i l hl
     simp at h;obtain ⟨rfl,rfl⟩:=h
     simp only [Bool.and_eq_true,Nat.ble_eq] at hle
     obtain ⟨hle,hlen⟩:=hle
     have hle:len*n≤1048576:=by simpa using hle
     obtain ⟨zv,hzv,rfl,hsz⟩:=Z5e (w:=w) hz
     have hn:n=zv.cells.size:=by rw [hs] at hsz;simpa using hsz
     have hpr:=Z3R hev _ _ hp
     obtain ⟨ds,hds,hr⟩:=Z74 ps _ _ ((Array.range (len*n)).map (fun i=>zv.cells[i % zv.cells.size]!)) l hpr (Z5F zv.cells len (len*n) (by rw [hn])) hl
     refine ⟨.slice (some ⟨w.heap.size,0,none⟩) len len,.cells ds elem,?_,fun e' hle' hr' hk=>⟨?_,.slc hr' (Nat.le_refl _) ?_⟩⟩
     ·have hpt:(parts.map fun (i,x)=>(i,ρ x)).toList=parts.toList.map fun (i,x)=>(i,ρ x):=by simp
      simp only [execOp,Instr.buildSlice,Sem.run_bind,Z0w hu,Z2j hs,Result.andThen_ok]
      rw [if_neg (by omega)]
      by_cases h0:len*n=0
      ·have hds':Instr.fill (fun i=>some (i*n,n)) ((Array.range (len*n)).map (fun i=>(#[]:Array Value)[i % (#[]:Array Value).size]!)) (parts.toList.map fun (i,x)=>(i,ρ x))=some ds:=by
        have r0:∀ f:Nat→Value,(Array.range 0).map f=#[]:=fun f=>by simp
        rw [h0,r0] at hds ⊢;exact hds
       rw [if_pos h0]
       simp only [Sem.run_pure,Sem.run_bind,Result.andThen_ok,hpt,hds',newRow,run_newObj]
       rfl
      ·rw [if_neg h0]
       simp only [Sem.run_pure,Sem.run_bind,Result.andThen_ok,hzv,hpt,hds,newRow,run_newObj]
       rfl
     ·exact BR.ofCells (hr.mono hle') hk
     ·exact Y6O (by simpa using hlen)
    ·cases h
   ·cases h
  ·cases h
 ·cases h
theorem Y1n {n:Nat} (h:n≤1048576):IntKind.wrap .i64 (n:Int)=n:=Z3Q (by omega) (by omega)
theorem Z9f (hev:∀ x a,ev x=some a→VR e a (ρ x)) (t:TypeId) (l c:Operand) :
 GivesO P e w ρ ⟨dst,.makeSlice t l c,ty,pos,aft,gd⟩ id (flMake P id (undA P t) (intA (ev l)) (intA (ev c))):=by
 intro v bl h
 unfold flMake at h
 split at h
 ·rename_i elem n m hu hn hm
  split at h
  ·rename_i i z hi hz
   split at h
   ·rename_i hc
    simp at h;obtain ⟨rfl,rfl⟩:=h
    simp only [Bool.and_eq_true,Nat.ble_eq] at hc
    obtain ⟨⟨h1,h2⟩,h3⟩:=hc
    have h2:i.bytes*m≤1073741824:=by simpa using h2
    have h3:m≤1048576:=by simpa using h3
    obtain ⟨k1,hk1⟩:=Z5f hev hn
    obtain ⟨k2,hk2⟩:=Z5f hev hm
    obtain ⟨zv,hzv,rfl,hsz⟩:=Z5e (w:=w) hz
    have hbi:(i.bytes:Int)*(m:Int)≤1073741824:=by
     rw [←Int.natCast_mul];generalize i.bytes*m=q at h2 ⊢;omega
    have w1:IntKind.wrap .i64 (Int.ofNat n)=n:=Y1n (by omega)
    have w2:IntKind.wrap .i64 (Int.ofNat m)=m:=Y1n h3
    refine ⟨.slice (some ⟨w.heap.size,0,none⟩) n m,.cells ((Array.range (m*zv.cells.size)).map (fun i=>zv.cells[i % zv.cells.size]!)) elem,?_,fun e' hle' hr' hk=>⟨?_,.slc hr' h1 (Y6O h3)⟩⟩
    ·simp only [execOp,Instr.makeSlice,Sem.run_bind,Z0w hu,Result.andThen_ok,asInt,asIntOf,hk1,hk2,Sem.run_pure,Z7j hi,w1,w2]
     have c1:¬ ((decide ((m:Int)<0) || decide ((i.bytes:Int)*(m:Int)>2 ^ 48)) || decide ((n:Int)<0) || decide ((n:Int)>(m:Int)))=true:=by
      have e48:(2:Int) ^ 48=281474976710656:=rfl
      rw [e48]
      generalize (i.bytes:Int)*(m:Int)=q at hbi ⊢
      simp only [Bool.or_eq_true,decide_eq_true_eq]
      omega
     rw [if_neg c1]
     simp only [Sem.run_bind,run_askRoom,Result.andThen_ok,Z2j hsz,Int.toNat_natCast]
     by_cases h0:m*zv.cells.size=0
     ·rw [if_pos h0]
      have r0:∀ f:Nat→Value,(Array.range 0).map f=#[]:=fun f=>by simp
      simp only [Sem.run_pure,Sem.run_bind,Result.andThen_ok,h0,r0,newRow,run_newObj]
      rfl
     ·rw [if_neg h0]
      simp only [Sem.run_pure,Sem.run_bind,Result.andThen_ok,hzv,newRow,run_newObj]
      rfl
    ·exact BR.ofCells (Z5F zv.cells m _ rfl) hk
   ·cases h
  ·cases h
 ·cases h
/-! ### Maps -/
theorem Y1o {kind:TypeDesc} {k:Value}:∀ (es:List (Value×AV×Nat)) (ms:List MapEntry) (i:Nat) (r:Option (Nat×AV)),ER e es ms→findA kind k es i=some r →
 (r=none∧Instr.findNow kind k ms i=some none)∨(∃ j a v,r=some (j,a)∧Instr.findNow kind k ms i=some (some (j,v))∧VR e a v∧i≤j∧j<i+ms.length)
 | [],[],i,r,_,h=>by simp [findA] at h;exact .inl ⟨h.symm,rfl⟩
 | [],_::_,_,_,h,_=>h.elim
 | (_,_,_)::_,[],_,_,h,_=>h.elim
 | (k',a,b)::es,m::ms,i,r,hr,h=>by
   obtain ⟨rfl,hv,_,ht⟩:=hr
   simp only [findA] at h
   split at h
   ·rename_i hs
    simp at h;subst h
    exact .inr ⟨i,a,m.val,rfl,by simp [Instr.findNow,hs],hv,Nat.le_refl _,by simp⟩
   ·rename_i hs
    rcases Y1o es ms (i+1) r ht h with ⟨h1,h2⟩ | ⟨j,a',v',h1,h2,h3,h4,h5⟩
    ·exact .inl ⟨h1,by simp [Instr.findNow,hs,h2]⟩
    ·exact .inr ⟨j,a',v',h1,by simp [Instr.findNow,hs,h2],h3,by omega,by simp;omega⟩
   ·cases h
theorem ER.length:∀ {es:List (Value×AV×Nat)} {ms:List MapEntry},ER e es ms→es.length=ms.length
 | [],[],_=>rfl
 | [],_::_,h=>h.elim
 | (_,_,_)::_,[],h=>h.elim
 | (_,_,_)::_,_::_,h=>by simp [ER.length h.2.2.2]
theorem run_checkKey {key:TypeId} {kd:TypeDesc} {k:Value} (b:Bool) (w:World) (hu:undA P key=some kd) (hp:plainKey kd=true):(Instr.checkKey b 10000 key k).run P w=.ok () w:=by
 have:Instr.checkKey b 10000 key k=Instr.checkKey b (9999+1) key k:=rfl
 rw [this]
 unfold Instr.checkKey
 rw [Sem.run_bind,Z0w hu]
 cases kd<;>first
  | (simp [plainKey] at hp;done)
  | rfl
theorem run_findKey {key:TypeId} {k:Value} {es:List (Value×AV×Nat)} {ms:List MapEntry} {r:Option (Nat×AV)} (w:World) (he:ER e es ms) (h:mapFind P key k es=some r) :
 (∀ b,(Instr.checkKey b 10000 key k).run P w=.ok () w) ∧
 ((r=none∧(Instr.findKey key k ms).run P w=.ok none w)∨(∃ j a v,r=some (j,a)∧(Instr.findKey key k ms).run P w=.ok (some (j,v)) w∧VR e a v∧j<ms.length)):=by
 unfold mapFind at h
 split at h
 ·rename_i kd hu
  split at h
  ·rename_i hp
   refine ⟨fun b=>run_checkKey b w hu hp,?_⟩
   rcases Y1o es ms 0 r he h with ⟨h1,h2⟩ | ⟨j,a,v,h1,h2,h3,_,h5⟩
   ·exact .inl ⟨h1,by simp [Instr.findKey,Z0w hu,h2]⟩
   ·exact .inr ⟨j,a,v,h1,by simp [Instr.findKey,Z0w hu,h2],h3,by omega⟩
  ·cases h
 ·cases h
theorem Y1p {H:Nat→Option Blk} (hH:HR P e H w) {b c:Nat} {es:List (Value×AV×Nat)} {clock:Nat} (hb:e.ρ b=some c) (h:H b=some (.mp es clock)) :
 ∃ ms,w.heap[c]? = some (.map ms clock)∧ER e es ms.toList:=by
 obtain ⟨o,ho,hr⟩:=hH b _ c h hb
 cases o<;>simp only [BR] at hr<;>try exact hr.elim
 obtain ⟨h1,rfl⟩:=hr
 exact ⟨_,ho,h1⟩
theorem run_getObj_map {c clock:Nat} {ms:Array MapEntry} (h:w.heap[c]? = some (.map ms clock)):(getObj c).run P w=.ok (.map ms clock) w:=by
 simp [getObj,Sem.run,h]
theorem Y4p (hev:∀ x a,ev x=some a→VR e a (ρ x)) (hH:HR P e H w) (t:TypeId) (x ix:Operand) (ok:Bool) :
 GivesO P e w ρ ⟨dst,.lookup t x ix ok,ty,pos,aft,gd⟩ id (flLookup P H ok (ev x) (undA P t) (ev ix)):=by
 intro v bl h
 unfold flLookup at h
 split at h
 ·rename_i b key elem k hx hu hix
  split at h
  ·rename_i es clock hb'
   split at h
   ·rename_i r hr
    split at h
    ·rename_i val found hf
     have h1:=hev x _ hx
     have h2:=hev ix _ hix
     generalize hy:ρ x=y at h1
     generalize hz:ρ ix=z at h2
     cases h1 with
     | mp hb=>
       cases h2 with
       | lit _=>
         obtain ⟨ms,hms,he⟩:=Y1p hH hb hb'
         obtain ⟨hck,hfk⟩:=run_findKey w he hr
         have key:∃ u,VR e val u∧(execOp ρ ⟨dst,.lookup t x ix ok,ty,pos,aft,gd⟩).run P w=.ok (.value (if ok then .tuple #[u,.bool found] else u)) w:=by
          rcases hfk with ⟨rfl,hn⟩ | ⟨j,a,u,rfl,hs,hu',_⟩
          ·simp only [foundA,zeroV] at hf
           split at hf
           ·rename_i zz hzz
            split at hzz
            ·rename_i i hi
             split at hzz
             ·rename_i zv hzv
              simp at hzz hf
              obtain ⟨rfl,rfl⟩:=hf
              subst hzz
              refine ⟨zv,Y0f e zv,?_⟩
              simp [execOp,hy,hz,Instr.lookup,Z0w hu,run_getObj_map hms,hck,hn,zeroValue,Z7j hi,hzv]
             ·cases hzz
            ·cases hzz
           ·cases hf
          ·simp [foundA] at hf
           obtain ⟨rfl,rfl⟩:=hf
           exact ⟨u,hu',by simp [execOp,hy,hz,Instr.lookup,Z0w hu,run_getObj_map hms,hck,hs]⟩
         obtain ⟨u,hu',hrun⟩:=key
         split at h
         ·simp at h;obtain ⟨rfl,rfl⟩:=h
          exact ⟨_,hrun,.tup (.cons hu' (.cons (.lit _) .nil))⟩
         ·simp at h;obtain ⟨rfl,rfl⟩:=h
          exact ⟨_,hrun,hu'⟩
    ·cases h
   ·cases h
  ·cases h
 ·cases h
theorem Y6b (hev:∀ x a,ev x=some a→VR e a (ρ x)) (t:TypeId) (x:Operand):GivesO P e w ρ ⟨dst,.range t x,ty,pos,aft,gd⟩ id (flRange id (ev x) (undA P t)):=by
 intro v bl h
 unfold flRange at h
 split at h
 ·rename_i s hx hu
  simp at h;obtain ⟨rfl,rfl⟩:=h
  have h1:=hev x _ hx
  generalize hy:ρ x=y at h1
  cases h1 with
  | lit _=>exact ⟨_,.stringIter s 0,by simp [execOp,hy,Instr.range,Z0w hu],fun e' _ hr _=>⟨⟨rfl,rfl⟩,.ptr hr⟩⟩
 ·cases h
end Go.Sy
namespace Go.Sy
variable {P:Program} {e:Env} {w:World} {ρ:Operand→Value} {ev:Operand→Option AV} {H:Nat→Option Blk} {id:Nat} {o:Oper}
variable {dst:Option Tmp} {ty:TypeId} {pos:String} {aft:Array Edge} {gd:Option (Nat×Bool)}
theorem Z5g {b off len cap:Nat} {v:Value} (h:VR e (.slc b off len cap) v):∃ c off' n,e.ρ b=some c∧v=.slice (some ⟨c,off',none⟩) len n∧len≤n∧(off'=off∨len=0):=by
 cases h with
 | slc hb hl hc=>exact ⟨_,_,_,hb,rfl,hl,.inl rfl⟩
 | slcU hb hk hl=>exact ⟨_,_,_,hb,rfl,hl,.inl rfl⟩
 | slcA hb hl=>exact ⟨_,_,_,hb,rfl,hl,.inl rfl⟩
 | slcE hb=>exact ⟨_,_,_,hb,rfl,Nat.zero_le _,.inr rfl⟩
theorem Z4Z (hH:HR P e H w) {b c off off' len n size:Nat} {l:List AV} (hb:e.ρ b=some c) (ho:off'=off∨len=0) (hn:n≤len) (h:loadC H b off (n*size)=some l) :
 ∃ vs,VRs e l vs∧vs.length=n*size∧(loadCells ⟨c,off',none⟩ (n*size)).run P w=.ok ⟨vs⟩ w:=by
 rcases ho with rfl|rfl
 ·exact Z1b hH hb h
 ·have h0:n=0:=by omega
  subst h0
  obtain ⟨vs,h1,h2,_⟩:=Z1b hH hb h
  have:vs=[]:=by simpa using h2
  subst this
  exact ⟨[],h1,by simp,by simp [loadCells,loadCellsFrom]⟩
theorem Z6B:∀ (l:List AV) (vs:List Value) (ns:List Int),VRs e l vs→bytesA l=some ns→vs=ns.map (.int .u8)
 | [],_,ns,.nil,h=>by
   simp [bytesA] at h;subst h;rfl
 | a::l,_,ns,.cons hv ht,h=>by
   unfold bytesA at h
   split at h
   ·rename_i heq;cases heq
   ·rename_i n t heq
    simp at heq
    obtain ⟨rfl,rfl⟩:=heq
    split at h
    ·rename_i l' hl'
     simp at h;subst h
     cases hv with
     | lit _=>rw [Z6B _ _ l' ht hl'];rfl
    ·cases h
   ·cases h
theorem Z6C {t:TypeId} (h:isU8 P t=true):P.underlying t=some (.int .u8):=by
 unfold isU8 at h
 split at h
 ·rename_i hu;exact Z1W hu
 ·cases h
theorem Y2A (hev:∀ x a,ev x=some a→VR e a (ρ x)) (hH:HR P e H w) (src d:TypeId) (x:Operand) :
 GivesO P e w ρ ⟨dst,.convert src d x,ty,pos,aft,gd⟩ id (flConvert P H ev ⟨dst,.convert src d x,ty,pos,aft,gd⟩ src d (ev x)):=by
 intro v bl h
 unfold flConvert at h
 split at h
 ·rename_i b off len cap hx
  unfold flBytes at h
  split at h
  ·rename_i el hs hd
   split at h
   ·rename_i l hu hl
    split at h
    ·rename_i ns hns
     simp at h;obtain ⟨rfl,rfl⟩:=h
     obtain ⟨c,off',n,hb,hy,_,ho⟩:=Z5g (hev x _ hx)
     obtain ⟨vs,h1,h2,h3⟩:=Z4Z (n:=len) (size:=1) hH hb ho (Nat.le_refl _) (by rw [Nat.mul_one];exact hl)
     have:=Z6B _ _ _ h1 hns
     subst this
     rw [Nat.mul_one] at h3
     refine ⟨.string (strOf ns),?_,.lit _⟩
     simp only [execOp,hy,Sem.run_bind,run_convert_bytes_string w src d el _ len n (Z1W hs) (Z6C hu) (Z1W hd),run_bytesToString w _ len n ns h3,Result.andThen_ok,Sem.run_pure]
     rfl
    ·cases h
   ·cases h
  ·cases h
 ·exact Z0Q hev (fun _ _=>by simp) v bl h
theorem arg0 (args:Array Operand) {a:AV} (hev:∀ x a,ev x=some a→VR e a (ρ x)) {i:Nat} (h:(args[i]?).bind ev=some a):∃ v,(args.map ρ)[i]? = some v∧VR e a v:=by
 cases hi:args[i]? with
 | none=>simp [hi] at h
 | some x=>simp [hi] at h;exact ⟨ρ x,by simp [hi],hev x a h⟩
theorem ty0 {ts:Array TypeId} {d:TypeDesc} {i:Nat} (h:(ts[i]?).bind (undA P)=some d):∃ t,ts[i]? = some t∧undA P t=some d:=by
 cases hi:ts[i]? with
 | none=>simp [hi] at h
 | some t=>simp [hi] at h;exact ⟨t,rfl,h⟩
theorem Z4v (bi:Builtin) (args:Array Operand) (ts:Array TypeId):execOp ρ ⟨dst,.call ⟨.builtin bi,args,ts⟩,ty,pos,aft,gd⟩=builtin bi ts ty (args.map fun | .const _=>true|_=>false) (args.map ρ):=rfl
theorem Y2B (hev:∀ x a,ev x=some a→VR e a (ρ x)) (hH:HR P e H w) (bi:Builtin) (args:Array Operand) (ts:Array TypeId) :
 GivesO P e w ρ ⟨dst,.call ⟨.builtin bi,args,ts⟩,ty,pos,aft,gd⟩ id (flBuiltin P H ev ⟨dst,.call ⟨.builtin bi,args,ts⟩,ty,pos,aft,gd⟩ args ts bi):=by
 have hg:GivesO P e w ρ ⟨dst,.call ⟨.builtin bi,args,ts⟩,ty,pos,aft,gd⟩ id (vConv (groundOp P ev ⟨dst,.call ⟨.builtin bi,args,ts⟩,ty,pos,aft,gd⟩)):=Z0Q hev (fun _ _=>by simp)
 intro v bl h
 unfold flBuiltin at h
 split at h
 ·unfold flLen at h
  split at h
  ·rename_i b off len cap el hx hu
   simp at h;obtain ⟨rfl,rfl⟩:=h
   obtain ⟨y,hy,hv⟩:=arg0 args hev hx
   obtain ⟨t,ht,hu⟩:=ty0 hu
   obtain ⟨c,off',n,hb,rfl,_,_⟩:=Z5g hv
   exact ⟨_,by rw [Z4v];simp [builtin,Builtin.len_,ht,hy,Z0w hu],.lit _⟩
  ·rename_i b k el hx hu
   split at h
   ·rename_i es clock hb'
    simp at h;obtain ⟨rfl,rfl⟩:=h
    obtain ⟨y,hy,hv⟩:=arg0 args hev hx
    obtain ⟨t,ht,hu⟩:=ty0 hu
    cases hv with
    | mp hb=>
      obtain ⟨ms,hms,he⟩:=Y1p hH hb hb'
      have hlen:es.length=ms.size:=he.length.trans Array.length_toList
      exact ⟨_,by rw [Z4v];simp [builtin,Builtin.len_,ht,hy,Z0w hu,run_getObj_map hms,hlen],.lit _⟩
   ·cases h
  ·rename_i a n el hx hu
   simp at h;obtain ⟨rfl,rfl⟩:=h
   obtain ⟨y,hy,hv⟩:=arg0 args hev hx
   obtain ⟨t,ht,hu⟩:=ty0 hu
   exact ⟨_,by rw [Z4v];simp [builtin,Builtin.len_,ht,hy,Z0w hu],.lit _⟩
  ·exact hg v bl h
 ·unfold flCap at h
  split at h
  ·rename_i b off len cap el hx hu
   split at h
   ·rename_i hc
    simp at h;obtain ⟨rfl,rfl⟩:=h
    obtain ⟨y,hy,hv⟩:=arg0 args hev hx
    obtain ⟨t,ht,hu⟩:=ty0 hu
    have hc:cap<unk:=by
     rcases Nat.lt_or_ge cap unk with h'|h'
     ·exact h'
     ·rw [Nat.ble_eq_true_of_le h'] at hc;cases hc
    cases hv with
    | slc hb hl _=>exact ⟨_,by rw [Z4v];simp [builtin,Builtin.cap_,ht,hy,Z0w hu],.lit _⟩
    | slcU _ _ _=>exact absurd hc (Nat.lt_irrefl _)
    | slcA _ _=>exact absurd hc (Nat.not_lt.2 (Nat.le_of_lt Z4Y))
    | slcE _=>exact absurd hc (Nat.not_lt.2 (Nat.le_of_lt Z3D))
   ·cases h
  ·exact hg v bl h
 ·exact hg v bl h
 ·exact hg v bl h
 ·cases h
theorem Z5G (hev:∀ x a,ev x=some a→VR e a (ρ x)) (hH:HR P e H w) (o:Oper):GivesO P e w ρ o id (fl P H ev o id o.op):=by
 obtain ⟨dst,op,ty,pos,aft,gd⟩:=o
 cases op with
 | move x=>exact Y7H hev x
 | assign x=>exact Y4l hev x
 | pick c a b=>exact Y7I hev c a b
 | alloc t=>exact Y54 t
 | box t x=>exact Y8K hev t x
 | build t parts=>exact Y6a hev t parts
 | buildSlice t n parts=>exact Z75 hev t n parts
 | load t x=>exact Y7J hev hH t x
 | nilCheck x=>exact Y8L hev x
 | binOp op t x y yt=>exact Y8M hev op t x y yt
 | unOp op t x=>exact Y7K hev op t x
 | convert s d x=>exact Y2A hev hH s d x
 | makeFunc f a b=>exact Y7L hev f a b
 | makeMap t r=>exact Y2x t r
 | makeSlice t l c=>exact Z9f hev t l c
 | slice t x lo hi mx=>exact Y59 hev t x lo hi mx
 | fieldAddr s x f=>exact Z9b hev s x f
 | field t x f=>exact Y55 hev t x f
 | indexAddr t x ix=>exact Z9d hev t x ix
 | index t x ix=>exact Y58 hev t x ix
 | lookup t x ix ok=>exact Y4p hev hH t x ix ok
 | range t x=>exact Y6b hev t x
 | extract x i=>exact Y2y hev x i
 | call c=>
   obtain ⟨callee,args,ts⟩:=c
   cases callee with
   | builtin b=>exact Y2B hev hH b args ts
   | _=>exact GivesO.none
 | _=>exact GivesO.none
end Go.Sy
