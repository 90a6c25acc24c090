/- Merged texts. -/
import Derived.Laws.CopyRow
import Derived.Test.YtnmedachaeanbaaGreatDoorB36
set_option linter.unusedVariables false
set_option linter.unusedSimpArgs false
namespace Go.Sy
variable {P:Program} {e:Env} {w:World} {ρ:Operand→Value} {ev:Operand→Option AV} {id:Nat} {o:Oper}
variable {dst:Option Tmp} {ty:TypeId} {pos:String} {aft:Array Edge} {gd:Option (Nat×Bool)}
structure SR (P:Program) (e:Env) (hp:Tr Blk) (nx:Nat) (w:World):Prop where
 hr:HR P e hp.get w
 inj:Inj e hp.get
 fresh:∀ id,nx≤id→e.ρ id=none∧e.κ id=none∧hp.get id=none
structure Goes (lo:Nat) (e:Env) (hp:Tr Blk) (nx:Nat) (w:World) (e':Env) (hp':Tr Blk) (nx':Nat) (w':World):Prop where
 le:e.le e'
 old:∀ id,id<lo→e'.ρ id=e.ρ id
 oldκ:∀ id,id<lo→e'.κ id=e.κ id
 abs:∀ id,id<lo→e.ρ id=none→hp'.get id=hp.get id
 keep:∀ c,c<w.heap.size→(∀ id,hp.get id≠none→e.ρ id≠some c)→w'.heap[c]? = w.heap[c]?
 img:∀ c id,c<w.heap.size→hp'.get id≠none→e'.ρ id=some c→∃ i,hp.get i≠none∧e.ρ i=some c
 size:w.heap.size≤w'.heap.size
 os:w'.os=w.os
 tape:w'.tape=w.tape
 output:w'.output=w.output
 nx:nx≤nx'
theorem Goes.refl {lo nx:Nat} {hp:Tr Blk}:Goes lo e hp nx w e hp nx w:=
 ⟨.refl e,fun _ _=>rfl,fun _ _=>rfl,fun _ _ _=>rfl,fun _ _ _=>rfl,fun _ id _ h1 h2=>⟨id,h1,h2⟩,Nat.le_refl _,rfl,rfl,rfl,Nat.le_refl _⟩
theorem Goes.down {lo lo' nx nx':Nat} {e':Env} {hp hp':Tr Blk} {w':World} (h:Goes lo e hp nx w e' hp' nx' w') (hl:lo'≤lo):Goes lo' e hp nx w e' hp' nx' w':=
 { h with old:=fun id hid=>h.old id (by omega),oldκ:=fun id hid=>h.oldκ id (by omega),abs:=fun id hid=>h.abs id (by omega) }
theorem Goes.trans {lo nx nx' nx'':Nat} {e' e'':Env} {hp hp' hp'':Tr Blk} {w' w'':World} (h:Goes lo e hp nx w e' hp' nx' w') (k:Goes lo e' hp' nx' w' e'' hp'' nx'' w''):Goes lo e hp nx w e'' hp'' nx'' w'' where
 le:=h.le.trans k.le
 old id hid:=(k.old id hid).trans (h.old id hid)
 oldκ id hid:=(k.oldκ id hid).trans (h.oldκ id hid)
 abs id hid h0:=(k.abs id hid (by rw [h.old id hid];exact h0)).trans (h.abs id hid h0)
 keep c hc hn:=by
  rw [k.keep c (Nat.lt_of_lt_of_le hc h.size) fun id h1 h2=>?_,h.keep c hc hn]
  obtain ⟨i,h3,h4⟩:=h.img c id hc h1 h2
  exact hn i h3 h4
 img c id hc h1 h2:=by
  obtain ⟨i,h3,h4⟩:=k.img c id (Nat.lt_of_lt_of_le hc h.size) h1 h2
  exact h.img c i hc h3 h4
 size:=Nat.le_trans h.size k.size
 os:=k.os.trans h.os
 tape:=k.tape.trans h.tape
 output:=k.output.trans h.output
 nx:=Nat.le_trans h.nx k.nx
/-! ### A draw -/
theorem SR.drew {hp:Tr Blk} {nx:Nat} (h:SR P e hp nx w):SR P e hp nx w.drew:=⟨h.hr,h.inj,h.fresh⟩
theorem Goes.drew {lo nx:Nat} {hp:Tr Blk}:Goes lo e hp nx w e hp nx w.drew:=
 ⟨.refl e,fun _ _=>rfl,fun _ _=>rfl,fun _ _ _=>rfl,fun _ _ _=>rfl,fun _ id _ h1 h2=>⟨id,h1,h2⟩,Nat.le_refl _,rfl,rfl,rfl,Nat.le_refl _⟩
/-! ### A new block -/
def Env.add (e:Env) (id c:Nat) (k:Option Nat):Env:=⟨fun i=>if i=id then some c else e.ρ i,fun i=>if i=id then k else e.κ i⟩
theorem Env.le_add {c:Nat} {k:Option Nat} (h:e.ρ id=none) (hk:e.κ id=none):e.le (e.add id c k):=
 ⟨fun b x hb=>by simp only [Env.add];split
                 ·rename_i h0;subst h0;rw [h] at hb;cases hb
                 ·exact hb,
  fun b x hb=>by simp only [Env.add];split
                 ·rename_i h0;subst h0;rw [hk] at hb;cases hb
                 ·exact hb⟩
theorem Env.κ_add {c:Nat} {k:Option Nat} {i:Nat} (h:i≠id):(e.add id c k).κ i=e.κ i:=by simp [Env.add,h]
theorem Env.ρ_add {c:Nat} {k:Option Nat} {i:Nat} (h:i≠id):(e.add id c k).ρ i=e.ρ i:=by simp [Env.add,h]
theorem Env.ρ_add_same {c:Nat} {k:Option Nat}:(e.add id c k).ρ id=some c:=by simp [Env.add]
theorem Env.κ_add_same {c:Nat} {k:Option Nat}:(e.add id c k).κ id=k:=by simp [Env.add]
theorem Y0l {P:Program} {H:Nat→Option Blk} (hH:HR P e H w) {b c:Nat} {blk:Blk} (hb:e.ρ b=some c) (h:H b=some blk):c<w.heap.size:=by
 obtain ⟨o,ho,_⟩:=hH b blk c h hb
 exact (Array.getElem?_eq_some_iff.1 ho).1
theorem SR.lay {hp:Tr Blk} {nx:Nat} (h:SR P e hp nx w) {blk:Blk} {obj:Obj} {k:Option Nat} (hid:hp.get id=some blk) (hρ:e.ρ id=none) (hκ:e.κ id=none)
 (hB:BR P (e.add id w.heap.size k) id blk obj):SR P (e.add id w.heap.size k) hp nx (w.alloc obj) where
 hr i b c hi hc:=by
  have hle:e.le (e.add id w.heap.size k):=Env.le_add hρ hκ
  by_cases h0:i=id
  ·subst h0
   rw [Env.ρ_add_same] at hc
   rw [hid] at hi
   cases hi;cases hc
   exact ⟨obj,by show (w.heap.push obj)[w.heap.size]? = some obj;simp,hB⟩
  ·rw [Env.ρ_add h0] at hc
   obtain ⟨o,ho,hr⟩:=h.hr i b c hi hc
   have hlt:c<w.heap.size:=Y0l h.hr hc hi
   refine ⟨o,?_,hr.mono hle (Env.κ_add h0)⟩
   simp only [World.alloc]
   rw [Array.getElem?_push_lt hlt,←ho,Array.getElem?_eq_getElem hlt]
 inj i j c hi hj hic hjc:=by
  by_cases h0:i=id<;>by_cases h1:j=id
  ·rw [h0,h1]
  ·exfalso
   subst h0
   rw [Env.ρ_add_same] at hic;cases hic
   rw [Env.ρ_add h1] at hjc
   obtain ⟨b,hb⟩:=Option.ne_none_iff_exists'.1 hj
   exact absurd (Y0l h.hr hjc hb) (Nat.lt_irrefl _)
  ·exfalso
   subst h1
   rw [Env.ρ_add_same] at hjc;cases hjc
   rw [Env.ρ_add h0] at hic
   obtain ⟨b,hb⟩:=Option.ne_none_iff_exists'.1 hi
   exact absurd (Y0l h.hr hic hb) (Nat.lt_irrefl _)
  ·rw [Env.ρ_add h0] at hic;rw [Env.ρ_add h1] at hjc
   exact h.inj i j c hi hj hic hjc
 fresh i hi:=by
  have hne:i≠id:=fun h0=>by subst h0;rw [(h.fresh i hi).2.2] at hid;cases hid
  rw [Env.ρ_add hne,Env.κ_add hne]
  exact h.fresh i hi
theorem Goes.lay {hp:Tr Blk} {nx:Nat} {obj:Obj} {k:Option Nat} {lo:Nat} (hρ:e.ρ id=none) (hκ:e.κ id=none) (hlo:lo≤id) :
 Goes lo e hp nx w (e.add id w.heap.size k) hp nx (w.alloc obj) where
 le:=Env.le_add hρ hκ
 old i hi:=Env.ρ_add (by omega)
 oldκ i hi:=Env.κ_add (by omega)
 abs _ _ _:=rfl
 keep c hc _:=by
  simp only [World.alloc]
  rw [Array.getElem?_push_lt hc,Array.getElem?_eq_getElem hc]
 img c i hc h1 h2:=by
  by_cases h0:i=id
  ·subst h0;rw [Env.ρ_add_same] at h2;cases h2;omega
  ·rw [Env.ρ_add h0] at h2;exact ⟨i,h1,h2⟩
 size:=by show w.heap.size≤(w.heap.push obj).size;simp
 os:=rfl
 tape:=rfl
 output:=rfl
 nx:=Nat.le_refl _
theorem SR.name {hp:Tr Blk} {nx:Nat} (h:SR P e hp nx w) (blk:Blk):SR P e (hp.put nx blk) (nx+1) w where
 hr i b c hi hc:=by
  rw [Tr.get_put] at hi
  split at hi
  ·rename_i h0;subst h0;rw [(h.fresh nx (Nat.le_refl _)).1] at hc;cases hc
  ·exact h.hr i b c hi hc
 inj i j c hi hj hic hjc:=by
  have hn:∀ i,e.ρ i=some c→(hp.put nx blk).get i≠none→hp.get i≠none:=fun i hic hi=>by
   rw [Tr.get_put] at hi
   split at hi
   ·rename_i h0;subst h0;rw [(h.fresh nx (Nat.le_refl _)).1] at hic;cases hic
   ·exact hi
  exact h.inj i j c (hn i hic hi) (hn j hjc hj) hic hjc
 fresh i hi:=by
  have:=h.fresh i (by omega)
  refine ⟨this.1,this.2.1,?_⟩
  rw [Tr.get_put,if_neg (by omega)]
  exact this.2.2
theorem Goes.name {hp:Tr Blk} {nx lo:Nat} {blk:Blk} (h:e.ρ nx=none) (hlo:lo≤nx):Goes lo e hp nx w e (hp.put nx blk) (nx+1) w where
 le:=.refl e
 old _ _:=rfl
 oldκ _ _:=rfl
 abs i hi _:=by rw [Tr.get_put,if_neg (by omega)]
 keep _ _ _:=rfl
 img c i hc h1 h2:=by
  rw [Tr.get_put] at h1
  split at h1
  ·rename_i h0;subst h0;rw [h] at h2;cases h2
  ·exact ⟨i,h1,h2⟩
 size:=Nat.le_refl _
 os:=rfl
 tape:=rfl
 output:=rfl
 nx:=Nat.le_succ _
/-! ### A block that is turned -/
theorem SR.turn {hp:Tr Blk} {nx:Nat} (h:SR P e hp nx w) {b c:Nat} {blk blk':Blk} {obj:Obj} {w':World} (hb:e.ρ b=some c) (hblk:hp.get b=some blk)
 (h1:w'.heap[c]? = some obj) (h2:∀ i,i≠c→w'.heap[i]? = w.heap[i]?) (hB:BR P e b blk' obj):SR P e (hp.put b blk') nx w' where
 hr i bk ci hi hc:=by
  rw [Tr.get_put] at hi
  split at hi
  ·rename_i h0;subst h0;rw [hb] at hc;cases hc;cases hi;exact ⟨obj,h1,hB⟩
  ·rename_i h0
   obtain ⟨o,ho,hr⟩:=h.hr i bk ci hi hc
   refine ⟨o,?_,hr⟩
   rw [h2 ci fun h3=>h0 (h.inj b i c (by rw [hblk];simp) (by rw [hi];simp) hb (h3 ▸ hc)),ho]
 inj i j ci hi hj hic hjc:=by
  have hn:∀ i,(hp.put b blk').get i≠none→hp.get i≠none:=fun i hi=>by
   rw [Tr.get_put] at hi
   split at hi
   ·rename_i h0;subst h0;rw [hblk];simp
   ·exact hi
  exact h.inj i j ci (hn i hi) (hn j hj) hic hjc
 fresh i hi:=by
  have:=h.fresh i hi
  refine ⟨this.1,this.2.1,?_⟩
  rw [Tr.get_put,if_neg]
  ·exact this.2.2
  ·intro h0;subst h0;rw [this.1] at hb;cases hb
theorem Goes.turn {hp:Tr Blk} {nx lo:Nat} {b c:Nat} {blk blk':Blk} {w':World} (hb:e.ρ b=some c) (hblk:hp.get b=some blk)
 (h2:∀ i,i≠c→w'.heap[i]? = w.heap[i]?) (hs:w'.heap.size=w.heap.size) (h3:w'.os=w.os) (h4:w'.tape=w.tape) (h5:w'.output=w.output) :
 Goes lo e hp nx w e (hp.put b blk') nx w' where
 le:=.refl e
 old _ _:=rfl
 oldκ _ _:=rfl
 abs i hi h0:=by
  rw [Tr.get_put,if_neg]
  intro h1;subst h1;rw [h0] at hb;cases hb
 keep ci _ hn:=h2 ci fun h0=>hn b (by rw [hblk];simp) (h0 ▸ hb)
 img ci i _ h6 h7:=by
  rw [Tr.get_put] at h6
  split at h6
  ·rename_i h0;subst h0;exact ⟨b,by rw [hblk];simp,h7⟩
  ·exact ⟨i,h6,h7⟩
 size:=by omega
 os:=h3
 tape:=h4
 output:=h5
 nx:=Nat.le_refl _
end Go.Sy
namespace Go.Sy
variable {P:Program} {e:Env} {w:World} {ρ:Operand→Value} {ev:Operand→Option AV} {id:Nat} {o:Oper}
variable {dst:Option Tmp} {ty:TypeId} {pos:String} {aft:Array Edge} {gd:Option (Nat×Bool)}
theorem Z7l {a:AV} {v:Value} (h:VR e a v) (hc:isCell a=true):v.oneCell'=true:=by
 cases h with
 | lit v=>cases v<;>first|rfl|(simp [isCell] at hc)
 | agg _=>simp [isCell] at hc
 | tup _=>simp [isCell] at hc
 | _=>rfl
theorem Z40 (c o:Nat) (t:TypeId) (fz:Nat×Nat):∀ (vs:List Value) (i:Nat) (cur:Array Value) (w:World),w.heap[c]? = some (.cells cur t fz)→o+i+vs.length≤cur.size→(fz.1=fz.2∨cur.size≤fz.1)→(∀ v∈vs,v.oneCell'=true) →
 (storeCells ⟨c,o,none⟩ vs i).run P w=.ok () (w.setRow c (cur.toList.take (o+i)++vs++cur.toList.drop (o+i+vs.length)).toArray)
 | [],i,cur,w,hg,_,_,_=>by
   simp only [storeCells,List.append_nil,List.length_nil,Nat.add_zero,List.take_append_drop,Array.toArray_toList]
   rw [setRow_self w c cur t fz hg]
   rfl
 | v::rest,i,cur,w,hg,hl,hf,h1=>by
   have hi:o+i<cur.size:=by simp at hl;omega
   have hcell:w.cell? ⟨c,o+i,none⟩=some cur[o+i]:=by simp [World.cell?,hg,hi]
   have hfro:w.frozen? ⟨c,o+i,none⟩=false:=by
    simp only [World.frozen?,hg]
    rcases hf with hf|hf<;>simp<;>omega
   have hst:(store ((⟨c,o,none⟩:Addr).add i) v).run P w=.ok () (w.setRow c (cur.setIfInBounds (o+i) v)):=by
    rw [Z2F,run_store P w _ v _ (h1 v (by simp)),hcell]
    simp [hfro,setCell_eq_setRow w c (o+i) cur t fz v hg]
   have ih:=Z40 c o t fz rest (i+1) (cur.setIfInBounds (o+i) v) (w.setRow c (cur.setIfInBounds (o+i) v)) (setRow_heap w c cur _ t _ hg) (by simp at hl ⊢;omega) (by simpa using hf) (fun x hx=>h1 x (by simp [hx]))
   simp only [storeCells,Sem.run_bind,hst,Result.andThen_ok,ih,setRow_setRow]
   congr 3
   have e:=list_seg_step cur.toList (o+i) v rest (by simp at hl ⊢;omega)
   simpa [Array.toList_setIfInBounds,Nat.add_assoc] using e
theorem setRow_other (w:World) (c:Nat) (cs:Array Value) (i:Nat) (h:i≠c):(w.setRow c cs).heap[i]? = w.heap[i]? := by
 simp only [World.setRow]
 rw [Array.getElem?_modify]
 rw [if_neg (fun h0=>h h0.symm)]
theorem Z6D (w:World) (c:Nat) (cs:Array Value):(w.setRow c cs).heap.size=w.heap.size:=by simp [World.setRow]
theorem Z4w {hp hp':Tr Blk} {nx b c off:Nat} {xs:List AV} {vs:List Value} (hS:SR P e hp nx w) (hb:e.ρ b=some c) (hx:VRs e xs vs) (h:putC hp b off xs=some hp') :
 ∃ w',(storeCells ⟨c,off,none⟩ vs).run P w=.ok () w'∧SR P e hp' nx w'∧∀ lo,Goes lo e hp nx w e hp' nx w':=by
 unfold putC at h
 split at h
 ·rename_i hall
  split at h
  ·rename_i t l hblk
   split at h
   ·rename_i l' hl'
    simp at h;subst h
    obtain ⟨h1,h2⟩:=Z35 _ _ _ _ hl'
    obtain ⟨ob,hob,hB⟩:=hS.hr b _ c hblk hb
    cases ob<;>simp only [BR] at hB<;>try exact hB.elim
    rename_i cs t' fz
    obtain ⟨rfl,hC,hf,hk⟩:=hB
    have hlen:l.length≤cs.size:=by
     rcases Nat.lt_or_ge cs.size l.length with h'|h'
     ·obtain ⟨v,hv,_⟩:=hC cs.size l[cs.size] (List.getElem?_eq_getElem h')
      rw [Array.getElem?_eq_none (Nat.le_refl _)] at hv;cases hv
     ·exact h'
    have hxl:=hx.length
    have hone:∀ v∈vs,v.oneCell'=true:=by
     intro v hv
     obtain ⟨i,hi,rfl⟩:=List.getElem_of_mem hv
     have hi':i<xs.length:=by omega
     obtain ⟨u,hu,hr⟩:=hx.get (List.getElem?_eq_getElem hi')
     rw [List.getElem?_eq_getElem hi] at hu
     cases hu
     exact Z7l hr (List.all_eq_true.1 hall _ (List.getElem_mem hi'))
    have hrun:=Z40 (P:=P) c off t fz vs 0 cs w hob (by omega) hf hone
    refine ⟨_,hrun,?_,fun lo=>?_⟩
    ·refine hS.turn hb hblk (setRow_heap w c cs _ t fz hob) (fun i hi=>setRow_other w c _ i hi) ⟨rfl,?_,?_,?_⟩
     ·intro i a ha
      rw [h2] at ha
      rw [Nat.add_zero]
      have e1:(l.take off).length=off:=by rw [List.length_take];omega
      have e2:(cs.toList.take off).length=off:=by rw [List.length_take,Array.length_toList];omega
      rw [List.getElem?_toArray]
      by_cases hi:i<off
      ·rw [List.append_assoc,List.getElem?_append_left (by omega),List.getElem?_take_of_lt hi] at ha
       obtain ⟨v,hv,hr⟩:=hC i a ha
       exact ⟨v,by rw [List.append_assoc,List.getElem?_append_left (by omega),List.getElem?_take_of_lt hi];simpa using hv,hr⟩
      ·by_cases hi2:i<off+xs.length
       ·rw [List.append_assoc,List.getElem?_append_right (by omega),e1,List.getElem?_append_left (by omega)] at ha
        obtain ⟨v,hv,hr⟩:=hx.get ha
        exact ⟨v,by rw [List.append_assoc,List.getElem?_append_right (by omega),e2,List.getElem?_append_left (by omega)];exact hv,hr⟩
       ·rw [List.getElem?_append_right (by rw [List.length_append];omega),List.length_append,e1,List.getElem?_drop] at ha
        obtain ⟨v,hv,hr⟩:=hC _ a ha
        refine ⟨v,?_,hr⟩
        rw [List.getElem?_append_right (by rw [List.length_append];omega),List.length_append,e2,List.getElem?_drop,←hxl,←hv]
        simp
     ·rw [List.size_toArray]
      simp only [List.length_append,List.length_take,List.length_drop,Array.length_toList]
      rcases hf with hf|hf
      ·exact .inl hf
      ·exact .inr (by omega)
     ·intro n hn
      obtain ⟨i,hi,hsz⟩:=hk n hn
      refine ⟨i,hi,?_⟩
      rw [List.size_toArray,←hsz]
      simp only [List.length_append,List.length_take,List.length_drop,Array.length_toList]
      omega
    ·exact Goes.turn hb hblk (fun i hi=>setRow_other w c _ i hi) (Z6D w c _) rfl rfl rfl
   ·cases h
  ·cases h
 ·cases h
def Does (P:Program) (e:Env) (hp:Tr Blk) (nx:Nat) (w:World) (s:Sem Next):Ef→Prop
 | .val v hp' nx' => ∃ n v' w' e',s.run P w=.ok n w'∧(n=.value v'∨(n=.skip∧v'=undef))∧VR e' v v'∧SR P e' hp' nx' w'∧Goes nx e hp nx w e' hp' nx' w'
 | .enter f args => ∃ vs,s.run P w=.ok (.enter f ⟨vs⟩) w∧VRs e args vs∧entersB P f=true
 | .round l args => ∃ c vs,e.ρ l=some c∧s.run P w=(Instr.yield c ⟨vs⟩).run P w∧VRs e args vs
def DoesO (P:Program) (e:Env) (hp:Tr Blk) (nx:Nat) (w:World) (s:Sem Next) (r:Option Ef):Prop := ∀ x,r=some x→Does P e hp nx w s x
theorem Z5H:VR e (.tup []) undef:=.tup .nil
theorem Y6c {hp:Tr Blk} {nx:Nat} (hev:∀ x a,ev x=some a→VR e a (ρ x)) (hS:SR P e hp nx w) (t:TypeId) (x y:Operand) :
 DoesO P e hp nx w (execOp ρ ⟨dst,.store t x y,ty,pos,aft,gd⟩) (efStore hp nx (ev x) (ev y) (szT P t)):=by
 intro r h
 unfold efStore at h
 split at h
 ·rename_i b off v n hx hy hs
  split at h
  ·rename_i hl
   have hl:=Nat.eq_of_beq_eq_true hl
   split at h
   ·rename_i hp' hp''
    simp at h;subst h
    have h1:=hev x _ hx
    generalize hxx:ρ x=xx at h1
    have h2:=Z4W (hev y _ hy)
    cases h1 with
    | ptr hb=>
      obtain ⟨w',hrun,hS',hG⟩:=Z4w hS hb h2 hp''
      refine ⟨.skip,undef,w',e,?_,.inr ⟨rfl,rfl⟩,Z5H,hS',hG _⟩
      have hsz:(ρ y).cells.size=n:=by rw [←hl,h2.length,Array.length_toList]
      simp only [execOp,hxx,Instr.storeAt,Instr.sureAddr,Sem.run_bind,Sem.run_pure,Result.andThen_ok,storeVar,Z2j hs,hsz,ne_eq,not_true_eq_false,if_false,hrun]
   ·cases h
  ·cases h
 ·cases h
end Go.Sy
namespace Go.Sy
variable {P:Program} {e:Env} {w:World} {ρ:Operand→Value} {ev:Operand→Option AV} {id:Nat} {o:Oper}
variable {dst:Option Tmp} {ty:TypeId} {pos:String} {aft:Array Edge} {gd:Option (Nat×Bool)}
theorem SR.del {hp:Tr Blk} {nx b:Nat} (h:SR P e hp nx w):SR P e (hp.del b) nx w where
 hr i bk c hi hc:=by
  rw [Tr.get_del] at hi
  split at hi
  ·cases hi
  ·exact h.hr i bk c hi hc
 inj i j c hi hj hic hjc:=by
  have hn:∀ i,(hp.del b).get i≠none→hp.get i≠none:=fun i hi=>by
   rw [Tr.get_del] at hi
   split at hi
   ·exact absurd rfl hi
   ·exact hi
  exact h.inj i j c (hn i hi) (hn j hj) hic hjc
 fresh i hi:=by
  have:=h.fresh i hi
  refine ⟨this.1,this.2.1,?_⟩
  rw [Tr.get_del];split
  ·rfl
  ·exact this.2.2
theorem Goes.del {hp:Tr Blk} {nx b c lo:Nat} (hb:e.ρ b=some c):Goes lo e hp nx w e (hp.del b) nx w where
 le:=.refl e
 old _ _:=rfl
 oldκ _ _:=rfl
 abs i _ h0:=by
  rw [Tr.get_del,if_neg]
  intro h1;subst h1;rw [h0] at hb;cases hb
 keep _ _ _:=rfl
 img c i _ h1 h2:=by
  rw [Tr.get_del] at h1
  split at h1
  ·exact absurd rfl h1
  ·exact ⟨i,h1,h2⟩
 size:=Nat.le_refl _
 os:=rfl
 tape:=rfl
 output:=rfl
 nx:=Nat.le_refl _
theorem SR.new {hp:Tr Blk} {nx:Nat} (h:SR P e hp nx w) {blk:Blk} {obj:Obj} {k:Option Nat} (hB:BR P (e.add nx w.heap.size k) nx blk obj) :
 SR P (e.add nx w.heap.size k) (hp.put nx blk) (nx+1) (w.alloc obj)∧Goes nx e hp nx w (e.add nx w.heap.size k) (hp.put nx blk) (nx+1) (w.alloc obj):=by
 have hf:=h.fresh nx (Nat.le_refl _)
 exact ⟨(h.name blk).lay (by rw [Tr.get_put,if_pos rfl]) hf.1 hf.2.1 hB,(Goes.name hf.1 (Nat.le_refl _)).trans (Goes.lay hf.1 hf.2.1 (Nat.le_refl _))⟩
theorem SR.renamed {hp:Tr Blk} {nx b c:Nat} {blk blk':Blk} {obj:Obj} {w':World} {k:Option Nat} (h:SR P e hp nx w) (hb:e.ρ b=some c) (hblk:hp.get b=some blk)
 (h1:w'.heap[c]? = some obj) (h2:∀ i,i≠c→w'.heap[i]? = w.heap[i]?) (hs:w'.heap.size=w.heap.size) (h3:w'.os=w.os) (h4:w'.tape=w.tape) (h5:w'.output=w.output)
 (hB:BR P (e.add nx c k) nx blk' obj):SR P (e.add nx c k) ((hp.del b).put nx blk') (nx+1) w'∧Goes nx e hp nx w (e.add nx c k) ((hp.del b).put nx blk') (nx+1) w':=by
 have hf:=h.fresh nx (Nat.le_refl _)
 have hle:e.le (e.add nx c k):=Env.le_add hf.1 hf.2.1
 have hne:nx≠b:=fun h0=>by subst h0;rw [hf.1] at hb;cases hb
 have hget:∀ i,i≠nx→((hp.del b).put nx blk').get i≠none→i≠b∧hp.get i≠none:=fun i hi hn=>by
  rw [Tr.get_put,if_neg (Ne.symm hi),Tr.get_del] at hn
  split at hn
  ·exact absurd rfl hn
  ·rename_i h0;exact ⟨fun h1=>h0 h1.symm,hn⟩
 refine ⟨⟨?_,?_,?_⟩,⟨hle,fun i hi=>Env.ρ_add (by omega),fun i hi=>Env.κ_add (by omega),?_,?_,?_,by omega,h3,h4,h5,Nat.le_succ _⟩⟩
 ·intro i bk ci hi hc
  by_cases h0:i=nx
  ·subst h0
   rw [Tr.get_put,if_pos rfl] at hi
   rw [Env.ρ_add_same] at hc
   cases hi;cases hc
   exact ⟨obj,h1,hB⟩
  ·obtain ⟨h6,h7⟩:=hget i h0 (by rw [hi];simp)
   rw [Tr.get_put,if_neg (Ne.symm h0),Tr.get_del,if_neg (Ne.symm h6)] at hi
   rw [Env.ρ_add h0] at hc
   obtain ⟨o,ho,hr⟩:=h.hr i bk ci hi hc
   refine ⟨o,?_,hr.mono hle (Env.κ_add h0)⟩
   rw [h2 ci fun h8=>h6 (h.inj i b c h7 (by rw [hblk];simp) (h8 ▸ hc) hb),ho]
 ·intro i j ci hi hj hic hjc
  by_cases h0:i=nx<;>by_cases h1':j=nx
  ·rw [h0,h1']
  ·exfalso
   subst h0
   rw [Env.ρ_add_same] at hic;cases hic
   obtain ⟨h6,h7⟩:=hget j h1' hj
   rw [Env.ρ_add h1'] at hjc
   exact h6 (h.inj j b c h7 (by rw [hblk];simp) hjc hb)
  ·exfalso
   subst h1'
   rw [Env.ρ_add_same] at hjc;cases hjc
   obtain ⟨h6,h7⟩:=hget i h0 hi
   rw [Env.ρ_add h0] at hic
   exact h6 (h.inj i b c h7 (by rw [hblk];simp) hic hb)
  ·rw [Env.ρ_add h0] at hic
   rw [Env.ρ_add h1'] at hjc
   exact h.inj i j ci (hget i h0 hi).2 (hget j h1' hj).2 hic hjc
 ·intro i hi
  have hf':=h.fresh i (by omega)
  have h0:i≠nx:=by omega
  rw [Env.ρ_add h0,Env.κ_add h0]
  refine ⟨hf'.1,hf'.2.1,?_⟩
  rw [Tr.get_put,if_neg (Ne.symm h0),Tr.get_del]
  split
  ·rfl
  ·exact hf'.2.2
 ·intro i hi h0
  rw [Tr.get_put,if_neg (by omega),Tr.get_del,if_neg]
  intro h1';subst h1';rw [h0] at hb;cases hb
 ·intro ci _ hn
  exact h2 ci fun h0=>hn b (by rw [hblk];simp) (h0 ▸ hb)
 ·intro ci i hlt hi hc
  by_cases h0:i=nx
  ·subst h0;rw [Env.ρ_add_same] at hc;cases hc
   exact ⟨b,by rw [hblk];simp,hb⟩
  ·rw [Env.ρ_add h0] at hc
   exact ⟨i,(hget i h0 hi).2,hc⟩
def setB (w:World) (c:Nat) (ob:Obj):World:={ w with heap:=w.heap.setIfInBounds c ob }
theorem Z9g {c:Nat} {ob ob':Obj} (h:w.heap[c]? = some ob):(setB w c ob').heap[c]? = some ob':=by
 have hlt:c<w.heap.size:=(Array.getElem?_eq_some_iff.1 h).1
 simp [setB,hlt]
theorem Z2V (c:Nat) (ob:Obj) (i:Nat) (hi:i≠c):(setB w c ob).heap[i]? = w.heap[i]? := Array.getElem?_setIfInBounds_ne (Ne.symm hi)
theorem Z9h (c:Nat) (ob:Obj):(setB w c ob).heap.size=w.heap.size:=by simp [setB]
theorem Z09 {c:Nat} {ob ob':Obj} (h:w.heap[c]? = some ob) (hc:∀ a b d,ob ≠ .cells a b d):(setObj c ob').run P w=.ok () (setB w c ob'):=by
 cases ob<;>first
  | exact absurd rfl (hc _ _ _)
  | simp [setObj,Sem.run,h,setB]
theorem Z29 {c:Nat} {ob:Obj} (h:w.heap[c]? = some ob) (hc:∀ a b d,ob ≠ .cells a b d):(getObj c).run P w=.ok ob w:=by
 cases ob<;>first
  | exact absurd rfl (hc _ _ _)
  | simp [getObj,Sem.run,h]
theorem SR.setB {hp:Tr Blk} {nx:Nat} (h:SR P e hp nx w) {b c:Nat} {blk blk':Blk} {ob ob':Obj} (hb:e.ρ b=some c) (hblk:hp.get b=some blk) (hob:w.heap[c]? = some ob)
 (hB:BR P e b blk' ob'):SR P e (hp.put b blk') nx (Sy.setB w c ob')∧∀ lo,Goes lo e hp nx w e (hp.put b blk') nx (Sy.setB w c ob'):=
 ⟨h.turn hb hblk (Z9g hob) (Z2V c ob') hB,fun _=>Goes.turn hb hblk (Z2V c ob') (Z9h c ob') rfl rfl rfl⟩
theorem ER.push {k:Value} {a:AV} {n:Nat} {m:MapEntry} (h1:k=m.key) (h2:VR e a m.val) (h3:n=m.born):∀ (es:List (Value×AV×Nat)) (ml:List MapEntry),ER e es ml→ER e (es++[(k,a,n)]) (ml++[m])
 | [],[],_=>⟨h1,h2,h3,trivial⟩
 | [],_::_,h=>h.elim
 | (_,_,_)::_,[],h=>h.elim
 | (_,_,_)::es,_::ml,h=>⟨h.1,h.2.1,h.2.2.1,ER.push h1 h2 h3 es ml h.2.2.2⟩
theorem ER.erase:∀ (es:List (Value×AV×Nat)) (ml:List MapEntry) (i:Nat),ER e es ml→ER e (es.eraseIdx i) (ml.eraseIdx i)
 | [],[],_,_=>trivial
 | [],_::_,_,h=>h.elim
 | (_,_,_)::_,[],_,h=>h.elim
 | (_,_,_)::_,_::_,0,h=>h.2.2.2
 | (_,_,_)::es,_::ml,i+1,h=>⟨h.1,h.2.1,h.2.2.1,ER.erase es ml i h.2.2.2⟩
theorem Z9i {hp:Tr Blk} {nx:Nat} (hev:∀ x a,ev x=some a→VR e a (ρ x)) (hS:SR P e hp nx w) (t:TypeId) (m k x:Operand) :
 DoesO P e hp nx w (execOp ρ ⟨dst,.mapUpdate t m k x,ty,pos,aft,gd⟩) (efMapUpdate P hp nx (ev m) (undA P t) (ev k) (ev x)):=by
 intro r h
 unfold efMapUpdate at h
 split at h
 ·rename_i b key el kv v hm hu hk hx
  split at h
  ·rename_i es clock hblk
   split at h
   ·rename_i hf
    simp at h;subst h
    have h1:=hev m _ hm
    have h2:=hev k _ hk
    have h3:=hev x _ hx
    generalize hmm:ρ m=mm at h1
    generalize hkk:ρ k=kk at h2
    cases h2 with
    | lit _=>
      cases h1 with
      | mp hb=>
        rename_i c
        obtain ⟨ms,hms,he⟩:=Y1p hS.hr hb hblk
        obtain ⟨hck,hfk⟩:=run_findKey w he hf
        rcases hfk with ⟨_,hn⟩ | ⟨j,a,u,h9,_⟩
        ·have hset:=Z09 (P:=P) (ob':=.map (ms.push { key:=kv,val:=ρ x,born:=clock }) (clock+1)) hms (fun _ _ _=>by simp)
         obtain ⟨h6,h7⟩:=hS.setB hb hblk hms (blk':=.mp (es++[(kv,v,clock)]) (clock+1)) (ob':=.map (ms.push { key:=kv,val:=ρ x,born:=clock }) (clock+1))
          ⟨by rw [Array.toList_push];exact ER.push (m:={ key:=kv,val:=ρ x,born:=clock }) rfl h3 rfl _ _ he,rfl⟩
         refine ⟨.skip,undef,_,e,?_,.inr ⟨rfl,rfl⟩,Z5H,h6,h7 _⟩
         simp only [execOp,hmm,hkk,Instr.mapUpdate,Sem.run_bind,Z0w hu,Result.andThen_ok,run_getObj_map hms,hck,hn,hset,Sem.run_pure]
        ·cases h9
   ·cases h
  ·cases h
 ·cases h
theorem Y4q {hp:Tr Blk} {nx:Nat} (hev:∀ x a,ev x=some a→VR e a (ρ x)) (hS:SR P e hp nx w) (args:Array Operand) (ts:Array TypeId) :
 DoesO P e hp nx w (execOp ρ ⟨dst,.call ⟨.builtin .delete,args,ts⟩,ty,pos,aft,gd⟩) (efDelete P hp nx ((args[0]?).bind ev) ((args[1]?).bind ev) ((ts[0]?).bind (undA P))):=by
 intro r h
 unfold efDelete at h
 split at h
 ·rename_i b kv key el hm hk hu
  obtain ⟨mm,hmm,h1⟩:=arg0 args hev hm
  obtain ⟨kk,hkk,h2⟩:=arg0 args hev hk
  obtain ⟨t,ht,hu⟩:=ty0 hu
  split at h
  ·rename_i es clock hblk
   cases h2 with
   | lit _=>
     cases h1 with
     | mp hb=>
       rename_i c
       obtain ⟨ms,hms,he⟩:=Y1p hS.hr hb hblk
       have hset:∀ ms',(setObj c (.map ms' clock)).run P w=.ok () (setB w c (.map ms' clock)):=fun ms'=>Z09 hms (fun _ _ _=>by simp)
       split at h
       ·rename_i i av hf
        simp at h;subst h
        obtain ⟨hck,hfk⟩:=run_findKey w he hf
        rcases hfk with ⟨h9,_⟩ | ⟨j,a,u,h9,hn,_,hjl⟩
        ·cases h9
        ·simp at h9
         obtain ⟨rfl,rfl⟩:=h9
         obtain ⟨h6,h7⟩:=hS.setB hb hblk hms (blk':=.mp (es.eraseIdx i) clock) (ob':=.map (ms.eraseIdxIfInBounds i) clock)
          ⟨by
           have hlt':i<ms.size:=by simpa using hjl
           rw [Array.eraseIdxIfInBounds,dif_pos hlt',Array.toList_eraseIdx]
           exact ER.erase _ _ i he,rfl⟩
         refine ⟨.value (.tuple #[]),.tuple #[],_,e,?_,.inl rfl,.tup .nil,h6,h7 _⟩
         rw [Z4v]
         simp only [builtin,Builtin.delete_,ht,hmm,hkk,Sem.run_bind,Z0w hu,Result.andThen_ok,run_getObj_map hms,hck,hn,hset,Sem.run_pure]
       ·rename_i hf
        simp at h;subst h
        obtain ⟨hck,hfk⟩:=run_findKey w he hf
        rcases hfk with ⟨_,hn⟩ | ⟨j,a,u,h9,_⟩
        ·have hsame:setB w c (.map ms clock)=w:=by
          have ha:w.heap.setIfInBounds c (.map ms clock)=w.heap:=by
           apply Array.ext_getElem?
           intro i
           by_cases h7:i=c
           ·subst h7;rw [hms];exact Z9g hms
           ·exact Z2V c _ i h7
          unfold setB
          rw [ha]
         refine ⟨.value (.tuple #[]),.tuple #[],w,e,?_,.inl rfl,.tup .nil,hS,.refl⟩
         rw [Z4v]
         simp only [builtin,Builtin.delete_,ht,hmm,hkk,Sem.run_bind,Z0w hu,Result.andThen_ok,run_getObj_map hms,hck,hn,hset,Sem.run_pure,hsame]
        ·cases h9
       ·cases h
  ·cases h
 ·cases h
theorem Y7M {hp:Tr Blk} {nx:Nat} (hev:∀ x a,ev x=some a→VR e a (ρ x)) (hS:SR P e hp nx w) (it:Operand) (b:Bool) :
 DoesO P e hp nx w (execOp ρ ⟨dst,.next it b,ty,pos,aft,gd⟩) (efNext hp nx b (ev it)):=by
 intro r h
 unfold efNext at h
 split at h
 ·rename_i bb hit
  have h1:=hev it _ hit
  generalize hii:ρ it=ii at h1
  cases h1 with
  | ptr hb=>
    rename_i c
    split at h
    ·rename_i s ps hblk
     obtain ⟨ob,hob,hB⟩:=hS.hr bb _ c hblk hb
     cases ob<;>simp only [BR] at hB<;>try exact hB.elim
     obtain ⟨rfl,rfl⟩:=hB
     have hget:=Z29 (P:=P) hob (fun _ _ _=>by simp)
     split at h
     ·rename_i hl
      have hl:ps<s.size:=by simpa [Nat.blt_eq] using hl
      simp at h;subst h
      have hset:=Z09 (P:=P) (ob':=.stringIter s (ps+(Utf8.decode s ps).2)) hob (fun _ _ _=>by simp)
      obtain ⟨h6,h7⟩:=hS.setB hb hblk hob (blk':=.str s (ps+(Utf8.decode s ps).2)) (ob':=.stringIter s (ps+(Utf8.decode s ps).2)) ⟨rfl,rfl⟩
      refine ⟨.value (.tuple #[.bool true,goInt ps,.int .i32 (Utf8.decode s ps).1]),_,_,e,?_,.inl rfl,.tup (.cons (.lit _) (.cons (.lit _) (.cons (.lit _) .nil))),h6,h7 _⟩
      simp only [execOp,hii,Instr.next,Sem.run_bind,hget,Result.andThen_ok,if_pos hl,hset,Sem.run_pure]
     ·rename_i hl
      have hl:¬ ps<s.size:=fun h0=>by rw [show Nat.blt ps s.size=true by simpa [Nat.blt_eq] using h0] at hl;cases hl
      simp at h;subst h
      refine ⟨.value (.tuple #[.bool false]),_,w,e,?_,.inl rfl,.tup (.cons (.lit _) .nil),hS,.refl⟩
      simp only [execOp,hii,Instr.next,Sem.run_bind,hget,Result.andThen_ok,if_neg hl,Sem.run_pure]
    ·cases h
 ·cases h
end Go.Sy
namespace Go.Sy
variable {P:Program} {e:Env} {w:World} {ρ:Operand→Value} {ev:Operand→Option AV} {id:Nat} {o:Oper}
variable {dst:Option Tmp} {ty:TypeId} {pos:String} {aft:Array Edge} {gd:Option (Nat×Bool)}
/-! ### What is appended, copied -/
theorem Z76 {a:AV} {v:Value} {n:Nat} (h:VR e a v) (hn:lenA a=some n):(Builtin.lenOf v).run P w=.ok n w:=by
 unfold lenA at hn
 split at hn
 ·simp at hn;subst hn
  obtain ⟨c,off',m,_,rfl,_⟩:=Z5g h
  simp [Builtin.lenOf]
 ·simp at hn;subst hn
  cases h with
  | lit _=>simp [Builtin.lenOf]
 ·simp at hn;subst hn
  cases h with
  | lit _=>simp [Builtin.lenOf]
 ·cases hn
theorem Y4r {w':World} (h:w'.heap=w.heap) (a:Addr):w'.cell? a=w.cell? a:=by simp [World.cell?,h]
theorem Y1q {H:Nat→Option Blk} {a:AV} {v:Value} {n m size:Nat} {l:List AV} (hH:HR P e H w) (h:VR e a v) (hm:lenA a=some m) (hn:n≤m) (hl:srcA H n size a=some l) :
 ∃ vs,VRs e l vs∧vs.length=n*size∧∀ w',w'.heap=w.heap→(Builtin.firstCells size n v).run P w'=.ok ⟨vs⟩ w':=by
 unfold srcA at hl
 split at hl
 ·simp [lenA] at hm;subst hm
  obtain ⟨c,off',k,hb,rfl,_,ho⟩:=Z5g h
  obtain ⟨vs,h1,h2,h3⟩:=Z72 hH hb hl
  refine ⟨vs,h1,h2,fun w' hw=>?_⟩
  have hrun:(loadCells ⟨c,off',none⟩ (n*size)).run P w'=.ok ⟨vs⟩ w':=by
   rcases ho with rfl|h0
   ·have:=run_loadCells_list (P:=P) (w:=w') ⟨c,off',none⟩ vs (fun j u hu=>by rw [Y4r hw];exact h3 j u hu)
    rw [h2] at this
    simpa using this
   ·have h0':n=0:=by omega
    subst h0'
    have:vs=[]:=by simpa using h2
    subst this
    simp [loadCells,loadCellsFrom]
  simp [Builtin.firstCells,hrun]
 ·split at hl
  ·simp at hl;subst hl
   cases h with
   | lit _=>exact ⟨[],.nil,by simp,fun w' _=>by simp [Builtin.firstCells]⟩
  ·cases hl
 ·rename_i s
  split at hl
  ·rename_i h1
   have h1:=Nat.eq_of_beq_eq_true h1
   subst h1
   simp at hl;subst hl
   cases h with
   | lit _=>
     have hb:∀ bs:List UInt8,VRs e (bs.map fun b=>AV.lit (.int .u8 b.toNat)) (bs.map fun b=>Value.int .u8 b.toNat):=fun bs=>by
      induction bs with
      | nil=>exact .nil
      | cons b bs ih=>exact .cons (.lit _) ih
     simp [lenA] at hm;subst hm
     refine ⟨((s.data.toList.map fun b=>Value.int .u8 b.toNat).take n),(hb _).take n,?_,fun w' _=>?_⟩
     ·rw [List.length_take,List.length_map,Array.length_toList]
      have:s.data.size=s.size:=rfl
      omega
     ·simp only [Builtin.firstCells,Sem.run_pure]
      congr 1
      apply Array.ext'
      simp [ByteArray.data_extract,List.extract]
  ·cases hl
 ·cases hl
structure App (P:Program) (w:World) (ts:Array TypeId) (args:Array Value) (elem size bytes:Nat) (s:Value) (n:Nat) (new:List Value) (z:Value):Prop where
 t0:∃ t,ts[0]? = some t∧P.underlying t=some (.slice elem)
 a0:args[0]? = some s
 info:∃ i,P.info? elem=some i∧i.size=size∧i.bytes=bytes∧i.zero=some z
 src:(∃ u d x,ts[1]? = some u∧P.underlying u=some d∧isIntT d=false∧args[1]? = some x∧(Builtin.lenOf x).run P w=.ok n w ∧
    (Builtin.firstCells size n x).run P w=.ok ⟨new⟩ w∧(Builtin.firstCells size n x).run P w.drew=.ok ⟨new⟩ w.drew∧(Builtin.lenOf x).run P w.drew=.ok n w.drew) ∨
  (∃ u d k,ts[1]? = some u∧P.underlying u=some d∧isIntT d=true∧args[1]? = some (.int k (n:Int))∧n≤200∧n*bytes≤209715200∧new=(if n*size=0 then [] else (Builtin.zeroCells z.cells n).toList))
theorem Z1h {t:TypeId} {d:TypeDesc} (h:P.underlying t=some d):(underlying t).run P w=.ok d w:=by simp [underlying,h]
theorem Z41 {t:TypeId} {i:TypeInfo} (h:P.info? t=some i):(typeInfo t).run P w=.ok i w:=by simp [typeInfo,h]
theorem Z3a {n:Nat} (h:n≤200):IntKind.wrap .i64 (n:Int)=n:=Z3Q (by omega) (by omega)
theorem App.inPlace {ts:Array TypeId} {args:Array Value} {elem size bytes sLen sCap n:Nat} {base:Option Addr} {new:List Value} {z:Value} {tt:TypeId}
 (h:App P w ts args elem size bytes (.slice base sLen sCap) n new z) (hle:sLen+n≤sCap) :
 (Builtin.append_ ts tt args).run P w=((match base with|some a=>storeCells (a.add (sLen*size)) new|none=>pure ()).run P w).andThen fun _ w'=>.ok (.slice base (sLen+n) sCap) w':=by
 obtain ⟨⟨t,ht,hu⟩,ha,⟨i,hi,rfl,rfl,hz⟩,hs⟩:=h
 rcases hs with ⟨u,d,x,h1,h2,h3,h4,h5,h6,_,_⟩ | ⟨u,d,k,h1,h2,h3,h4,h5,h6,rfl⟩
 ·have hd:∀ k,d ≠ .int k:=fun k h0=>by subst h0;cases h3
  cases base<;>simp [Builtin.append_,ht,ha,h1,h4,Z1h hu,Z1h h2,sizeOf,Z41 hi,h5,h6,hle]
 ·obtain ⟨k0,rfl⟩:∃ k0,d=.int k0:=by cases d<;>first|exact ⟨_,rfl⟩|cases h3
  have hn0:¬ ((n:Int)<0):=by omega
  have hb:¬ ((281474976710656:Int)<(n:Int)*(i.bytes:Int)):=by
   rw [←Int.natCast_mul]
   generalize n*i.bytes=q at h6 ⊢;omega
  by_cases h0:n*i.size=0
  ·cases base<;>simp [Builtin.append_,ht,ha,h1,h4,Z1h hu,Z1h h2,sizeOf,Z41 hi,hn0,asInt,asIntOf,Z3a h5,hb,hle,h0]
  ·cases base<;>simp [Builtin.append_,ht,ha,h1,h4,Z1h hu,Z1h h2,sizeOf,Z41 hi,hn0,asInt,asIntOf,Z3a h5,hb,hle,h0,zeroValue,hz]
def Z3f (w:World) (need old:Nat) (elem:TypeId):Nat:=(Question.appendCap need old elem).cut (w.tape w.drawn (.appendCap need old elem))
theorem Z2k (w:World) (need old:Nat) (elem:TypeId):need≤Z3f w need old elem:=by simp [Z3f,Question.cut]
theorem App.grows {ts:Array TypeId} {args:Array Value} {elem size bytes sLen sCap n:Nat} {base:Option Addr} {old new:List Value} {z:Value} {tt:TypeId}
 (h:App P w ts args elem size bytes (.slice base sLen sCap) n new z) (hgt:sCap<sLen+n) (hneed:sLen+n≤200) (hby:bytes≤1048576)
 (hold:(Builtin.firstCells size sLen (.slice base sLen sCap)).run P w.drew=.ok ⟨old⟩ w.drew) :
 (Builtin.append_ ts tt args).run P w=.ok (.slice (some ⟨w.heap.size,0,none⟩) (sLen+n) (Z3f w (sLen+n) sCap elem))
  (w.drew.alloc (.cells ((old++new).toArray++Builtin.zeroCells z.cells (Z3f w (sLen+n) sCap elem-(sLen+n))) elem)):=by
 obtain ⟨⟨t,ht,hu⟩,ha,⟨i,hi,rfl,rfl,hz⟩,hs⟩:=h
 have hnot:¬ (sLen+n≤sCap):=by omega
 have h63:¬ ((9223372036854775807:Int)<(sLen:Int)+(n:Int)):=by omega
 have h48:¬ (281474976710656<Builtin.nextslicecap (sLen+n) sCap*i.bytes):=by
  have h1:=nextslicecap_le hgt
  have h2:Builtin.nextslicecap (sLen+n) sCap*i.bytes≤400*1048576:=Nat.mul_le_mul (by omega) hby
  omega
 rcases hs with ⟨u,d,x,h1,h2,h3,h4,h5,h6,h7,_⟩ | ⟨u,d,k,h1,h2,h3,h4,h5,h6,rfl⟩
 ·have hd:∀ k,d=.int k→False:=fun k h0=>by subst h0;cases h3
  simp [Builtin.append_,ht,ha,h1,h4,Z1h hu,Z1h h2,sizeOf,Z41 hi,h5,h7,hnot,h63,h48,Question.forced,hold,zeroValue,hz,newRow,Z3f]
  try (congr 2;apply Array.ext';simp [List.append_assoc])
 ·obtain ⟨k0,rfl⟩:∃ k0,d=.int k0:=by cases d<;>first|exact ⟨_,rfl⟩|cases h3
  have hn0:¬ ((n:Int)<0):=by omega
  have hb:¬ ((281474976710656:Int)<(n:Int)*(i.bytes:Int)):=by
   rw [←Int.natCast_mul]
   generalize n*i.bytes=q at h6 ⊢;omega
  by_cases h0:n*i.size=0
  ·simp [Builtin.append_,ht,ha,h1,h4,Z1h hu,Z1h h2,sizeOf,Z41 hi,hn0,asInt,asIntOf,Z3a h5,hb,hnot,h63,h48,Question.forced,hold,zeroValue,hz,newRow,Z3f,h0]
   try (congr 2;apply Array.ext';simp [List.append_assoc])
  ·simp [Builtin.append_,ht,ha,h1,h4,Z1h hu,Z1h h2,sizeOf,Z41 hi,hn0,asInt,asIntOf,Z3a h5,hb,hnot,h63,h48,Question.forced,hold,zeroValue,hz,newRow,Z3f,h0]
   try (congr 2;apply Array.ext';simp [List.append_assoc])
end Go.Sy
namespace Go.Sy
variable {P:Program} {e:Env} {w:World} {ρ:Operand→Value} {ev:Operand→Option AV} {id:Nat} {o:Oper}
variable {dst:Option Tmp} {ty:TypeId} {pos:String} {aft:Array Edge} {gd:Option (Nat×Bool)}
theorem Y0m {e':Env} {elem need N nx:Nat} {i:TypeInfo} {z:Value} {l:List AV} {vs:List Value} (hi:P.info? elem=some i) (hz:z.cells.size=i.size) (hl:VRs e' l vs) (hlen:vs.length=need*i.size)
 (hN:need≤N) (hk:e'.κ nx=some N):BR P e' nx (.cells elem l) (.cells (vs.toArray++Builtin.zeroCells z.cells (N-need)) elem):=by
 refine ⟨rfl,fun j a ha=>?_,.inl rfl,fun n hn=>⟨i,hi,?_⟩⟩
 ·obtain ⟨v,hv,hr⟩:=hl.get ha
  have hlt:j<vs.length:=by
   rcases Nat.lt_or_ge j vs.length with h|h
   ·exact h
   ·rw [List.getElem?_eq_none h] at hv;cases hv
  exact ⟨v,by rw [Array.getElem?_append_left (by simpa using hlt)];simpa using hv,hr⟩
 ·rw [hk] at hn;cases hn
  simp [Builtin.zeroCells,hlen,hz,←Nat.add_mul]
  rw [Nat.add_sub_cancel' hN]
theorem BR.row {b c:Nat} {hp:Tr Blk} {nx t:Nat} {l:List AV} (hS:SR P e hp nx w) (hb:e.ρ b=some c) (hblk:hp.get b=some (.cells t l)) :
 ∃ cs fz,w.heap[c]? = some (.cells cs t fz)∧CR e l cs∧(fz.1=fz.2∨cs.size≤fz.1)∧∀ n,e.κ b=some n→∃ i,P.info? t=some i∧cs.size=n*i.size:=by
 obtain ⟨ob,hob,hB⟩:=hS.hr b _ c hblk hb
 cases ob<;>simp only [BR] at hB<;>try exact hB.elim
 obtain ⟨rfl,h1,h2,h3⟩:=hB
 exact ⟨_,_,hob,h1,h2,h3⟩
theorem Y6d {hp:Tr Blk} {nx elem n size bytes:Nat} {s:AV} {sv:Value} {new:List Value} {z:Value} {ts:Array TypeId} {args:Array Value} {r:Ef} (hS:SR P e hp nx w) (hs:VR e s sv)
 (hA:App P w ts args elem size bytes sv n new z) (hn:n=0) (hnew:new=[]) (h:appNone hp nx s=some r) :
 Does P e hp nx w (builtin .append ts ty #[] args) r:=by
 subst hn;subst hnew
 have key:∀ base len cap,sv=.slice base len cap→len≤cap→Does P e hp nx w (builtin .append ts ty #[] args) (.val s hp nx):=fun base len cap h0 hle=>by
  subst h0
  refine ⟨.value (.slice base len cap),_,w,e,?_,.inl rfl,hs,hS,.refl⟩
  have:=hA.inPlace (tt:=ty) (by omega)
  simp only [builtin,Sem.run_bind,this]
  cases base<;>simp [storeCells]
 unfold appNone at h
 split at h
 ·simp at h;subst h
  obtain ⟨c,off',m,_,rfl,hle,_⟩:=Z5g hs
  exact key _ _ _ rfl hle
 ·simp at h;subst h
  cases hs with
  | lit _=>exact key _ _ _ rfl (Nat.le_refl _)
 ·cases h
theorem Y6e {hp:Tr Blk} {nx elem n size bytes:Nat} {s:AV} {sv:Value} {l:List AV} {new:List Value} {z:Value} {ts:Array TypeId} {args:Array Value} {r:Ef} (hS:SR P e hp nx w) (hs:VR e s sv)
 (hA:App P w ts args elem size bytes sv n new z) (hz:z.cells.size=size) (hl:VRs e l new) (hlen:new.length=n*size) (hn0:n≠0) (hn:n≤200) (hby:bytes≤1048576) (h:appSome hp nx elem size s l n=some r) :
 Does P e hp nx w (builtin .append ts ty #[] args) r:=by
 obtain ⟨i,hi,his,hib,hiz⟩:=hA.info
 have hfr:=hS.fresh nx (Nat.le_refl _)
 have hle:∀ c k,e.le (e.add nx c k):=fun c k=>Env.le_add hfr.1 hfr.2.1
 unfold appSome at h
 split at h
 ·rename_i b off len cap
  split at h
  ·rename_i hneed
   have hneed:len+n≤200:=by simpa using hneed
   split at h
   ·rename_i hc
    have hc:cap<unk:=by
     rcases Nat.lt_or_ge cap unk with h'|h'
     ·exact h'
     ·rw [Nat.ble_eq_true_of_le h'] at hc;cases hc
    have hsv:∃ c,e.ρ b=some c∧sv=.slice (some ⟨c,off,none⟩) len cap:=by
     cases hs with
     | slc hb _ _=>exact ⟨_,hb,rfl⟩
     | slcU _ _ _=>exact absurd hc (Nat.lt_irrefl _)
     | slcA _ _=>exact absurd hc (Nat.not_lt.2 (Nat.le_of_lt Z4Y))
     | slcE _=>exact absurd hc (Nat.not_lt.2 (Nat.le_of_lt Z3D))
    obtain ⟨c,hb,rfl⟩:=hsv
    unfold appKnown at h
    split at h
    ·rename_i hcap
     have hcap:len+n≤cap:=by simpa using hcap
     split at h
     ·rename_i hp' hput
      simp at h;subst h
      obtain ⟨w',hrun,hS',hG⟩:=Z4w hS hb hl hput
      refine ⟨.value (.slice (some ⟨c,off,none⟩) (len+n) cap),_,w',e,?_,.inl rfl,.slc hb hcap hc,hS',hG _⟩
      have:=hA.inPlace (tt:=ty) hcap
      simp only [Z2F] at this
      simp only [builtin,Sem.run_bind,this,hrun,Result.andThen_ok,Sem.run_pure]
     ·cases h
    ·rename_i hcap
     have hcap:cap<len+n:=by
      rcases Nat.lt_or_ge cap (len+n) with h'|h'
      ·exact h'
      ·rw [Nat.ble_eq_true_of_le h'] at hcap;cases hcap
     split at h
     ·rename_i old hold
      simp at h;subst h
      obtain ⟨vs,h1,h2,h3⟩:=Z1b (w:=w.drew) hS.drew.hr hb hold
      have hg:=hA.grows (tt:=ty) hcap hneed hby (old:=vs) (by simp [Builtin.firstCells,h3])
      have hrow:=Y0m (nx:=nx) (e':=e.add nx w.heap.size (some (Z3f w (len+n) cap elem))) (i:=i) (z:=z) hi (by rw [hz,his]) ((h1.append hl).mono (hle _ _)) (need:=len+n)
       (by rw [List.length_append,h2,hlen,his,Nat.add_mul]) (Z2k w (len+n) cap elem) Env.κ_add_same
      obtain ⟨hS',hG⟩:=hS.drew.new hrow
      refine ⟨_,_,_,_,by simp only [builtin,Sem.run_bind,hg,Result.andThen_ok,Sem.run_pure];rfl,.inl rfl,.slcU Env.ρ_add_same Env.κ_add_same (Z2k w (len+n) cap elem),hS',Goes.drew.trans hG⟩
     ·cases h
   ·split at h
    ·rename_i hco
     simp only [Bool.and_eq_true] at hco
     have hcu:cap=unk:=Nat.eq_of_beq_eq_true hco.1
     have ho:off=0:=Nat.eq_of_beq_eq_true hco.2
     subst hcu;subst ho
     have hsv:∃ c N,e.ρ b=some c∧e.κ b=some N∧len≤N∧sv=.slice (some ⟨c,0,none⟩) len N:=by
      cases hs with
      | slc _ _ hc=>exact absurd hc (Nat.lt_irrefl _)
      | slcU hb hk hl=>exact ⟨_,_,hb,hk,hl,rfl⟩
     obtain ⟨c,N,hb,hk,hlN,rfl⟩:=hsv
     unfold appUnk at h
     split at h
     ·rename_i el l0 hblk
      split at h
      ·rename_i old hel hold
       simp only [Bool.and_eq_true] at hel
       have he0:el=elem:=Nat.eq_of_beq_eq_true hel.1
       subst he0
       simp at h;subst h
       obtain ⟨ht1,ht2⟩:=Z2U _ _ _ hold
       obtain ⟨cs,fz,hob,hC,hf,hsz⟩:=BR.row hS hb hblk
       obtain ⟨i',hi',hcs⟩:=hsz N hk
       rw [hi] at hi';cases hi'
       rw [his] at hcs
       by_cases hin:len+n≤N
       ·have hone:∀ v∈new,v.oneCell'=true:=by
         intro v hv
         obtain ⟨j,hj,rfl⟩:=List.getElem_of_mem hv
         have hj':j<l.length:=by rw [hl.length];exact hj
         obtain ⟨u,hu,hr⟩:=hl.get (List.getElem?_eq_getElem hj')
         rw [List.getElem?_eq_getElem hj] at hu
         cases hu
         exact Z7l hr (List.all_eq_true.1 hel.2 _ (List.getElem_mem hj'))
        have hfit:len*size+new.length≤cs.size:=by
         rw [hlen,hcs,←Nat.add_mul];exact Nat.mul_le_mul_right _ hin
        have hrun:=Z40 (P:=P) c (len*size) el fz new 0 cs w hob (by omega) hf hone
        rw [Nat.add_zero] at hrun
        have htake:len*size≤cs.size:=by omega
        have hrow:BR P (e.add nx c (some N)) nx (.cells el (old++l)) (.cells (cs.toList.take (len*size)++new++cs.toList.drop (len*size+new.length)).toArray el fz):=by
         have e2:(cs.toList.take (len*size)).length=len*size:=by rw [List.length_take,Array.length_toList];omega
         have e1:old.length=len*size:=by rw [ht2,List.length_take];omega
         refine ⟨rfl,fun j a ha=>?_,?_,fun m hm=>?_⟩
         ·rw [List.getElem?_toArray]
          by_cases hj:j<len*size
          ·rw [List.getElem?_append_left (by omega),ht2,List.getElem?_take_of_lt hj] at ha
           obtain ⟨v,hv,hr⟩:=hC j a ha
           exact ⟨v,by rw [List.append_assoc,List.getElem?_append_left (by omega),List.getElem?_take_of_lt hj];simpa using hv,hr.mono (hle _ _)⟩
          ·rw [List.getElem?_append_right (by omega),e1] at ha
           obtain ⟨v,hv,hr⟩:=hl.get ha
           have hvl:j-len*size<new.length:=by
            rcases Nat.lt_or_ge (j-len*size) new.length with h'|h'
            ·exact h'
            ·rw [List.getElem?_eq_none h'] at hv;cases hv
           exact ⟨v,by rw [List.append_assoc,List.getElem?_append_right (by omega),e2,List.getElem?_append_left (by omega)];exact hv,hr.mono (hle _ _)⟩
         ·rw [List.size_toArray]
          simp only [List.length_append,List.length_take,List.length_drop,Array.length_toList]
          rcases hf with hf|hf
          ·exact .inl hf
          ·exact .inr (by omega)
         ·rw [Env.κ_add_same] at hm;cases hm
          refine ⟨i,hi,?_⟩
          rw [List.size_toArray,his,←hcs]
          simp only [List.length_append,List.length_take,List.length_drop,Array.length_toList]
          omega
        obtain ⟨hS',hG⟩:=hS.renamed hb hblk (setRow_heap w c cs _ el fz hob) (fun j hj=>setRow_other w c _ j hj) (Z6D w c _) rfl rfl rfl hrow
        refine ⟨.value (.slice (some ⟨c,0,none⟩) (len+n) N),_,_,_,?_,.inl rfl,.slcU Env.ρ_add_same Env.κ_add_same hin,hS',hG⟩
        have:=hA.inPlace (tt:=ty) hin
        simp only [Z2F,Nat.zero_add] at this
        simp only [builtin,Sem.run_bind,this,hrun,Result.andThen_ok,Sem.run_pure]
       ·have hgt:N<len+n:=by omega
        have hold':loadC hp.get b 0 (len*size)=some old:=by
         unfold loadC;rw [hblk];simpa [Z3P] using hold
        obtain ⟨vs,h1,h2,h3⟩:=Z1b (w:=w.drew) hS.drew.hr hb hold'
        have hg:=hA.grows (tt:=ty) hgt hneed hby (old:=vs) (by simp [Builtin.firstCells,h3])
        have hrow:=Y0m (nx:=nx) (e':=e.add nx w.heap.size (some (Z3f w (len+n) N el))) (i:=i) (z:=z) hi (by rw [hz,his]) ((h1.append hl).mono (hle _ _)) (need:=len+n)
         (by rw [List.length_append,h2,hlen,his,Nat.add_mul]) (Z2k w (len+n) N el) Env.κ_add_same
        obtain ⟨hS',hG⟩:=hS.drew.del.new hrow
        refine ⟨_,_,_,_,by simp only [builtin,Sem.run_bind,hg,Result.andThen_ok,Sem.run_pure];rfl,.inl rfl,.slcU Env.ρ_add_same Env.κ_add_same (Z2k w (len+n) N el),hS',(Goes.drew.trans (Goes.del hb)).trans hG⟩
      ·cases h
     ·cases h
    ·cases h
  ·cases h
 ·simp at h;subst h
  cases hs with
  | lit _=>
    have hg:=hA.grows (tt:=ty) (sCap:=0) (by omega) (by omega) hby (old:=[]) (by simp [Builtin.firstCells])
    have hrow:=Y0m (nx:=nx) (e':=e.add nx w.heap.size (some (Z3f w (0+n) 0 elem))) (i:=i) (z:=z) hi (by rw [hz,his]) (hl.mono (hle _ _)) (need:=0+n)
     (by rw [hlen,his,Nat.zero_add]) (Z2k w (0+n) 0 elem) Env.κ_add_same
    obtain ⟨hS',hG⟩:=hS.drew.new hrow
    refine ⟨_,_,_,_,by simp only [builtin,Sem.run_bind,hg,Result.andThen_ok,Sem.run_pure];rfl,.inl rfl,?_,hS',Goes.drew.trans hG⟩
    have:=VR.slcU (len:=0+n) (off:=0) (Env.ρ_add_same (e:=e) (id:=nx) (c:=w.heap.size) (k:=some (Z3f w (0+n) 0 elem))) Env.κ_add_same (Z2k w (0+n) 0 elem)
    simpa using this
 ·cases h
end Go.Sy
namespace Go.Sy
variable {P:Program} {e:Env} {w:World} {ρ:Operand→Value} {ev:Operand→Option AV} {id:Nat} {o:Oper}
variable {dst:Option Tmp} {ty:TypeId} {pos:String} {aft:Array Edge} {gd:Option (Nat×Bool)}
theorem Y1r {hp:Tr Blk} {nx elem n:Nat} {i:TypeInfo} {s:AV} {sv:Value} {l:List AV} {new:List Value} {z:Value} {ts:Array TypeId} {args:Array Value} {cs:Array Bool} {r:Ef} (hS:SR P e hp nx w) (hs:VR e s sv)
 (hA:App P w ts args elem i.size i.bytes sv n new z) (hz:z.cells.size=i.size) (hl:VRs e l new) (hlen:new.length=n*i.size) (h:appendA hp nx elem i.size i.bytes s l n=some r) :
 Does P e hp nx w (builtin .append ts ty cs args) r:=by
 have hc:builtin .append ts ty cs args=builtin .append ts ty #[] args:=rfl
 rw [hc]
 unfold appendA at h
 split at h
 ·rename_i hn
  have hn:=Nat.eq_of_beq_eq_true hn
  subst hn
  refine Y6d hS hs hA rfl ?_ h
  simpa using hlen
 ·rename_i hn
  have hn0:n≠0:=fun h0=>by subst h0;simp at hn
  split at h
  ·rename_i hcond
   simp only [Bool.and_eq_true,Nat.ble_eq] at hcond
   exact Y6e hS hs hA hz hl hlen hn0 (by simpa using hcond.1) (by simpa using hcond.2) h
  ·cases h
theorem Y4s {hp:Tr Blk} {nx:Nat} (hev:∀ x a,ev x=some a→VR e a (ρ x)) (hS:SR P e hp nx w) (args:Array Operand) (ts:Array TypeId) :
 DoesO P e hp nx w (execOp ρ ⟨dst,.call ⟨.builtin .append,args,ts⟩,ty,pos,aft,gd⟩) (efAppend P hp nx ((args[0]?).bind ev) ((args[1]?).bind ev) ((ts[0]?).bind (undA P)) ((ts[1]?).bind (undA P))):=by
 intro r h
 rw [Z4v]
 unfold efAppend at h
 split at h
 ·rename_i s x elem xt hs hx hu hut
  obtain ⟨sv,hsv,hsr⟩:=arg0 args hev hs
  obtain ⟨xv,hxv,hxr⟩:=arg0 args hev hx
  obtain ⟨t,ht,hu⟩:=ty0 hu
  obtain ⟨u,htu,hut⟩:=ty0 hut
  split at h
  ·rename_i i z hi hz hint
   split at h
   ·rename_i n hn
    split at h
    ·rename_i hn200
     have hn200:n≤200:=by simpa using hn200
     obtain ⟨zv,hzv,rfl,hsz⟩:=Z5e (w:=w) hz
     have hzs:zv.cells.size=i.size:=by simp [szT,hi] at hsz;exact hsz.symm
     have hiz:i.zero=some zv:=by
      simp only [zeroT,hi,zeroOf] at hz
      cases hzz:i.zero with
      | none=>simp [hzz] at hz
      | some v=>
        simp [zeroValue,Z7j hi,hzz] at hzv
        rw [hzv]
     obtain ⟨k,hk⟩:=Z9c hn
     simp at hk
     subst hk
     have hx2:=hxr.int
     subst hx2
     have hnb:n=0∨n*i.bytes≤209715200:=by
      rcases Nat.eq_zero_or_pos n with h0|h0
      ·exact .inl h0
      ·right
       unfold appendA at h
       rw [show Nat.beq n 0=false by cases hq:Nat.beq n 0 with|false=>rfl|true=>exact absurd (Nat.eq_of_beq_eq_true hq) (by omega)] at h
       simp only at h
       split at h
       ·rename_i hcond
        simp only [Bool.and_eq_true,Nat.ble_eq] at hcond
        have h2:i.bytes≤1048576:=by simpa using hcond.2
        exact Nat.le_trans (Nat.mul_le_mul hn200 h2) (by decide)
       ·cases h
     have hzc:VRs e (rep (zv.cells.toList.map .lit) n) (if n*i.size=0 then [] else (Builtin.zeroCells zv.cells n).toList):=by
      have h1:=Z5F (e:=e) zv.cells n (n*zv.cells.size) rfl
      split
      ·rename_i h0
       rw [←hzs] at h0
       rw [h0] at h1
       simpa using h1
      ·exact h1
     refine Y1r hS hsr (i:=i) (new:=if n*i.size=0 then [] else (Builtin.zeroCells zv.cells n).toList) (z:=zv) ⟨⟨t,ht,Z1W hu⟩,hsv,⟨i,Z3O hi,rfl,rfl,hiz⟩,
      .inr ⟨u,xt,k,htu,Z1W hut,hint,hxv,hn200,?_,rfl⟩⟩ hzs hzc ?_ h
     ·rcases hnb with rfl|hnb
      ·simp
      ·exact hnb
     ·split
      ·rename_i h0;rw [h0];rfl
      ·simp [Builtin.zeroCells,hzs]
    ·cases h
   ·cases h
  ·rename_i i z hi hz hint
   split at h
   ·rename_i n hn
    split at h
    ·rename_i l hl
     obtain ⟨zv,hzv,rfl,hsz⟩:=Z5e (w:=w) hz
     have hzs:zv.cells.size=i.size:=by simp [szT,hi] at hsz;exact hsz.symm
     have hiz:i.zero=some zv:=by
      simp only [zeroT,hi,zeroOf] at hz
      cases hzz:i.zero with
      | none=>simp [hzz] at hz
      | some v=>
        simp [zeroValue,Z7j hi,hzz] at hzv
        rw [hzv]
     obtain ⟨vs,h1,h2,h3⟩:=Y1q hS.hr hxr hn (Nat.le_refl _) hl
     exact Y1r hS hsr (i:=i) (new:=vs) (z:=zv) ⟨⟨t,ht,Z1W hu⟩,hsv,⟨i,Z3O hi,rfl,rfl,hiz⟩,
      .inl ⟨u,xt,xv,htu,Z1W hut,hint,hxv,Z76 hxr hn,h3 w rfl,h3 w.drew rfl,Z76 hxr hn⟩⟩ hzs h1 h2 h
    ·cases h
   ·cases h
  ·cases h
 ·cases h
theorem Y7N {hp:Tr Blk} {nx:Nat} (hev:∀ x a,ev x=some a→VR e a (ρ x)) (hS:SR P e hp nx w) (args:Array Operand) (ts:Array TypeId) :
 DoesO P e hp nx w (execOp ρ ⟨dst,.call ⟨.builtin .copy,args,ts⟩,ty,pos,aft,gd⟩) (efCopy P hp nx ((args[0]?).bind ev) ((args[1]?).bind ev) ((ts[0]?).bind (undA P))):=by
 intro r h
 rw [Z4v]
 unfold efCopy at h
 split at h
 ·rename_i b off len cap x elem hd hx hu
  obtain ⟨dv,hdv,hdr⟩:=arg0 args hev hd
  obtain ⟨xv,hxv,hxr⟩:=arg0 args hev hx
  obtain ⟨t,ht,hu⟩:=ty0 hu
  split at h
  ·rename_i m size hm hs
   split at h
   ·rename_i cs hcs
    split at h
    ·rename_i hp' hput
     simp at h;subst h
     obtain ⟨c,off',n',hb,rfl,_,ho⟩:=Z5g hdr
     obtain ⟨vs,h1,h2,h3⟩:=Y1q hS.hr hxr hm (Nat.min_le_left _ _) hcs
     have hfin:∀ w',(storeCells ⟨c,off',none⟩ vs).run P w=.ok () w' →
      (builtin .copy ts ty (args.map fun | .const _=>true|_=>false) (args.map ρ)).run P w=.ok (.value (goInt (Nat.min m len))) w':=fun w' hst=>by
      simp [builtin,Builtin.copy_,ht,hdv,hxv,Z0w hu,Z76 hxr hm,Z2j hs,h3 w rfl,hst]
     rcases ho with rfl|h0
     ·obtain ⟨w',hrun,hS',hG⟩:=Z4w hS hb h1 hput
      exact ⟨_,_,w',e,hfin w' hrun,.inl rfl,.lit _,hS',hG _⟩
     ·subst h0
      obtain ⟨w',hrun,hS',hG⟩:=Z4w hS hb h1 hput
      have hv:vs=[]:=by simpa using h2
      subst hv
      have:w'=w:=by simpa [storeCells] using hrun.symm
      subst this
      exact ⟨_,_,w',e,hfin w' (by simp [storeCells]),.inl rfl,.lit _,hS',hG _⟩
    ·cases h
   ·cases h
  ·cases h
 ·cases h
theorem Y6f {hp:Tr Blk} {nx:Nat} (hev:∀ x a,ev x=some a→VR e a (ρ x)) (hS:SR P e hp nx w) (args:Array Operand) (ts:Array TypeId) :
 DoesO P e hp nx w (execOp ρ ⟨dst,.call ⟨.builtin .clear,args,ts⟩,ty,pos,aft,gd⟩) (efClear P hp nx ((args[0]?).bind ev) ((ts[0]?).bind (undA P))):=by
 intro r h
 rw [Z4v]
 unfold efClear at h
 split at h
 ·rename_i b off len cap elem hd hu
  obtain ⟨dv,hdv,hdr⟩:=arg0 args hev hd
  obtain ⟨t,ht,hu⟩:=ty0 hu
  split at h
  ·rename_i z hz
   split at h
   ·rename_i hp' hput
    simp at h;subst h
    obtain ⟨zv,hzv,rfl,hsz⟩:=Z5e (w:=w) hz
    obtain ⟨c,off',n',hb,rfl,_,ho⟩:=Z5g hdr
    have h1:=Z5F (e:=e) zv.cells len (len*zv.cells.size) rfl
    obtain ⟨w',hrun,hS',hG⟩:=Z4w hS hb h1 hput
    rcases Nat.eq_zero_or_pos len with h0|h0
    ·subst h0
     have:w'=w:=by simpa [storeCells] using hrun.symm
     subst this
     refine ⟨.value (.tuple #[]),_,w',e,?_,.inl rfl,.tup .nil,hS',hG _⟩
     simp [builtin,Builtin.clear_,ht,hdv,Z0w hu]
    ·rcases ho with rfl|h9
     ·refine ⟨.value (.tuple #[]),_,w',e,?_,.inl rfl,.tup .nil,hS',hG _⟩
      have hz2:(Builtin.zeroCells zv.cells len).toList=((Array.range (len*zv.cells.size)).map (fun i=>zv.cells[i % zv.cells.size]!)).toList:=rfl
      obtain ⟨len',rfl⟩:∃ k,len=k+1:=⟨len-1,by omega⟩
      simp only [builtin,Builtin.clear_,Sem.run_bind,ht,hdv,Z0w hu,Result.andThen_ok,hzv,hz2,hrun,Sem.run_pure]
     ·omega
   ·cases h
  ·cases h
 ·rename_i a b el hd hu
  simp at h;subst h
  obtain ⟨dv,hdv,hdr⟩:=arg0 args hev hd
  obtain ⟨t,ht,hu⟩:=ty0 hu
  cases hdr with
  | lit _=>
    refine ⟨.value (.tuple #[]),_,w,e,?_,.inl rfl,.tup .nil,hS,.refl⟩
    simp [builtin,Builtin.clear_,ht,hdv,Z0w hu]
 ·cases h
theorem Z7m {c n:Nat} {cs:Array Value} {t:TypeId} {fz:Nat×Nat} (h:w.heap[c]? = some (.cells cs t fz)) :
 (w.freeze ⟨c,n,none⟩ 1).heap[c]? = some (.cells cs t (if fz.1==fz.2 then (n,n+1) else (min fz.1 n,max fz.2 (n+1)))) ∧
 (∀ i,i≠c→(w.freeze ⟨c,n,none⟩ 1).heap[i]? = w.heap[i]?)∧(w.freeze ⟨c,n,none⟩ 1).heap.size=w.heap.size:=by
 refine ⟨?_,fun i hi=>?_,?_⟩
 ·simp [World.freeze,Array.getElem?_modify,h]
 ·simp only [World.freeze]
  rw [if_neg (by simp),Array.getElem?_modify,if_neg (Ne.symm hi)]
 ·simp [World.freeze]
theorem Z2W {c off:Nat} {cs:Array Value} {t:TypeId} {fz:Nat×Nat} (h:w.heap[c]? = some (.cells cs t fz)) :
 (markStringish ⟨c,off,none⟩).run P w=.ok () (w.freeze ⟨c,cs.size,none⟩ 1):=by
 simp [markStringish,World.shape?,h]
theorem BR.frozen {b:Nat} {t:TypeId} {l:List AV} {cs:Array Value} {fz:Nat×Nat} (h:BR P e b (.cells t l) (.cells cs t fz)) :
 BR P e b (.cells t l) (.cells cs t (if fz.1==fz.2 then (cs.size,cs.size+1) else (min fz.1 cs.size,max fz.2 (cs.size+1)))):=by
 obtain ⟨h1,h2,h3,h4⟩:=h
 refine ⟨h1,h2,.inr ?_,h4⟩
 split
 ·exact Nat.le_refl _
 ·rename_i hne
  rcases h3 with h3|h3
  ·simp [h3] at hne
  ·simp;omega
theorem Y2C {hp:Tr Blk} {nx:Nat} (hev:∀ x a,ev x=some a→VR e a (ρ x)) (hS:SR P e hp nx w) (src d:TypeId) (x:Operand) :
 DoesO P e hp nx w (execOp ρ ⟨dst,.convert src d x,ty,pos,aft,gd⟩) (efConvert P hp nx (Nat.beq src d) (ev x) (undA P src) (undA P d)):=by
 intro r h
 unfold efConvert at h
 split at h
 ·rename_i b off len cap es el hx hus hud
  split at h
  ·rename_i t l hcond hblk
   simp only [Bool.and_eq_true] at hcond
   have hsd:src=d:=Nat.eq_of_beq_eq_true hcond.1
   subst hsd
   simp at h;subst h
   have hvr:=hev x _ hx
   obtain ⟨c,off',n',hb,hy,_,ho⟩:=Z5g hvr
   obtain ⟨cs,fz,hob,hrow⟩:∃ cs fz,w.heap[c]? = some (.cells cs t fz)∧BR P e b (.cells t l) (.cells cs t fz):=by
    obtain ⟨ob,hob,hB⟩:=hS.hr b _ c hblk hb
    cases ob<;>simp only [BR] at hB<;>try exact hB.elim
    obtain ⟨rfl,hB⟩:=hB
    exact ⟨_,_,hob,rfl,hB⟩
   obtain ⟨g1,g2,g3⟩:=Z7m (n:=cs.size) hob
   refine ⟨.value (ρ x),_,_,e,?_,.inl rfl,hvr,hS.turn hb hblk g1 g2 (BR.frozen hrow),Goes.turn hb hblk g2 g3 (by simp [World.freeze]) (by simp [World.freeze]) (by simp [World.freeze])⟩
   have hm:=Z2W (P:=P) (off:=off') hob
   rw [hus] at hud
   simp [execOp,hy,convert,Z0w hus,Z1h (Z6C hcond.2),hm,Option.some.inj hud]
  ·cases h
 ·rename_i s el hx hus hud
  split at h
  ·rename_i hcond
   simp only [Bool.and_eq_true] at hcond
   simp at h;subst h
   have hvr:=hev x _ hx
   generalize hy:ρ x=y at hvr
   have hfr:=hS.fresh nx (Nat.le_refl _)
   cases hvr with
   | lit _=>
     obtain ⟨i,hi,his⟩:∃ i,P.info? el=some i∧i.size=1:=by
      have h1:=hcond.2
      unfold isOne szT at h1
      split at h1
      ·rename_i h2
       split at h2
       ·rename_i i hi
        exact ⟨i,Z3O hi,by simpa using h2⟩
       ·cases h2
      ·cases h1
     let N:=Z3f w s.size 0 el
     have hN:s.size≤N:=Z2k w s.size 0 el
     let cs:Array Value:=(s.data.map fun b=>Value.int .u8 b.toNat)++Array.replicate (N-s.size) (.int .u8 0)
     have hcs:cs.size=N:=by
      have:s.data.size=s.size:=rfl
      simp [cs];omega
     have hrow0:BR P (e.add nx w.heap.size (some N)) nx (.cells el (byteCells s)) (.cells cs el):=by
      refine ⟨rfl,fun j a ha=>?_,.inl rfl,fun m hm=>⟨i,hi,?_⟩⟩
      ·unfold byteCells at ha
       rw [List.getElem?_map] at ha
       cases hj:s.data.toList[j]? with
       | none=>rw [hj] at ha;cases ha
       | some b=>
         rw [hj] at ha
         simp at ha;subst ha
         have hlt:j<s.data.size:=by
          rcases Nat.lt_or_ge j s.data.size with h'|h'
          ·exact h'
          ·rw [List.getElem?_eq_none (by simpa using h')] at hj;cases hj
         refine ⟨.int .u8 b.toNat,?_,.lit _⟩
         simp only [cs]
         rw [Array.getElem?_append_left (by simpa using hlt)]
         have hj':s.data[j]? = some b:=by simpa using hj
         simp [hj']
      ·rw [Env.κ_add_same] at hm;cases hm
       rw [hcs,his,Nat.mul_one]
     obtain ⟨hS',hG⟩:=hS.drew.new hrow0
     have hob:(w.drew.alloc (.cells cs el)).heap[w.heap.size]? = some (.cells cs el):=by
      show (w.heap.push _)[w.heap.size]? = _
      simp
     obtain ⟨g1,g2,g3⟩:=Z7m (n:=cs.size) hob
     have hρ:(e.add nx w.heap.size (some N)).ρ nx=some w.heap.size:=Env.ρ_add_same
     have hblk:(hp.put nx (.cells el (byteCells s))).get nx=some (.cells el (byteCells s)):=by rw [Tr.get_put,if_pos rfl]
     have hS2:=hS'.turn (blk':=.cells el (byteCells s)) hρ hblk g1 g2 (BR.frozen hrow0)
     have hG2:=Goes.turn (lo:=nx) (nx:=nx+1) (blk':=.cells el (byteCells s)) hρ hblk g2 g3 (by simp [World.freeze]) (by simp [World.freeze]) (by simp [World.freeze])
     have hput:∀ id,((hp.put nx (.cells el (byteCells s))).put nx (.cells el (byteCells s))).get id=(hp.put nx (.cells el (byteCells s))).get id:=fun id=>by
      rw [Tr.get_put,Tr.get_put];split<;>rfl
     refine ⟨.value (.slice (some ⟨w.heap.size,0,none⟩) s.size N),_,(w.drew.alloc (.cells cs el)).freeze ⟨w.heap.size,cs.size,none⟩ 1,e.add nx w.heap.size (some N),?_,.inl rfl,.slcU hρ Env.κ_add_same hN,?_,?_⟩
     ·have hm:=Z2W (P:=P) (off:=0) hob
      simp [execOp,hy,convert,Z0w hus,Z0w hud,Z1h (Z6C hcond.1),Conv.stringToBytes,Question.forced,newRow]
      exact congrArg (fun r=>Result.andThen (Result.andThen r fun _ w'=>Result.ok (Value.slice (some ⟨w.heap.size,0,none⟩) s.size N) w') fun a w'=>Result.ok (Next.value a) w') hm
     ·exact ⟨fun id blk c h1 h2=>hS2.hr id blk c (by rw [hput];exact h1) h2,fun i j c h1 h2=>hS2.inj i j c (by rw [hput];exact h1) (by rw [hput];exact h2),fun id hid=>by have:=hS2.fresh id hid;rw [hput] at this;exact this⟩
     ·have hGG:=(Goes.drew.trans hG).trans hG2
      exact { hGG with abs:=fun id h1 h2=>by have:=hGG.abs id h1 h2;rw [hput] at this;exact this,img:=fun c id h1 h2 h3=>hGG.img c id h1 (by rw [hput];exact h2) h3 }
  ·cases h
 ·cases h
theorem Z9j {f:FuncId} (h:entersB P f=true):∃ fn c,P.funcs[f]? = some fn∧fn.body=some c∧(fn.name == "runtime.NumGoroutine")=false:=by
 unfold entersB at h
 rw [Y4i] at h
 split at h
 ·rename_i fn hf
  simp only [Bool.and_eq_true,Bool.not_eq_true'] at h
  obtain ⟨c,hc⟩:=Option.isSome_iff_exists.1 h.2
  exact ⟨fn,c,hf,hc,h.1⟩
 ·cases h
theorem Z2l {f:FuncId} (h:entersB P f=true) (args:Array Value):(callFunc f args).run P w=.ok (.enter f args) w:=by
 obtain ⟨fn,c,hf,hc,hn⟩:=Z9j h
 simp [callFunc,hf,hc]
 simpa using hn
theorem Y7O {hp:Tr Blk} {nx:Nat} (hev:∀ x a,ev x=some a→VR e a (ρ x)) (f:Operand) (args:Array Operand) (ts:Array TypeId) :
 DoesO P e hp nx w (execOp ρ ⟨dst,.call ⟨.value f,args,ts⟩,ty,pos,aft,gd⟩) (callA P (ev f) (evL ev args.toList)):=by
 intro r h
 unfold callA at h
 split at h
 ·rename_i g l as hf has
  split at h
  ·rename_i he
   simp at h;subst h
   have hvr:=hev f _ hf
   have hvs:=Y1k hev _ _ has
   generalize hy:ρ f=y at hvr
   cases hvr with
   | clo hl=>
     rename_i vs
     refine ⟨args.toList.map ρ++vs,?_,hvs.append hl,he⟩
     have ha:args.map ρ=⟨args.toList.map ρ⟩:=by rw [←Array.toList_map]
     simp only [execOp,resolve,hy,Deferred.ofValue,Sem.run_bind,Sem.run_pure,Result.andThen_ok,invoke]
     rw [Z2l he]
     simp [ha]
  ·cases h
 ·rename_i b as hf has
  simp at h;subst h
  have hvr:=hev f _ hf
  have hvs:=Y1k hev _ _ has
  generalize hy:ρ f=y at hvr
  cases hvr with
  | yld hb=>
    have ha:args.map ρ=⟨args.toList.map ρ⟩:=by rw [←Array.toList_map]
    refine ⟨_,args.toList.map ρ,hb,?_,hvs⟩
    simp only [execOp,resolve,hy,Deferred.ofValue,Sem.run_bind,Sem.run_pure,Result.andThen_ok,invoke,ha]
    simp
 ·cases h
theorem DoesO.none {hp:Tr Blk} {nx:Nat} {s:Sem Next}:DoesO P e hp nx w s none:=fun _ h=>by cases h
theorem Y1s {hp:Tr Blk} {nx:Nat} (hev:∀ x a,ev x=some a→VR e a (ρ x)) (hS:SR P e hp nx w) (o:Oper):DoesO P e hp nx w (execOp ρ o) (ef P hp nx ev o.op):=by
 obtain ⟨dst,op,ty,pos,aft,gd⟩:=o
 cases op with
 | store t a x=>exact Y6c hev hS t a x
 | convert s d x=>exact Y2C hev hS s d x
 | mapUpdate t m k x=>exact Z9i hev hS t m k x
 | next it b=>exact Y7M hev hS it b
 | call c=>
   obtain ⟨callee,args,ts⟩:=c
   cases callee with
   | value f=>exact Y7O hev f args ts
   | invoke r m=>exact DoesO.none
   | builtin b=>
     cases b with
     | append=>exact Y4s hev hS args ts
     | copy=>exact Y7N hev hS args ts
     | clear=>exact Y6f hev hS args ts
     | delete=>exact Y4q hev hS args ts
     | _=>exact DoesO.none
 | _=>exact DoesO.none
theorem Y4t {hp:Tr Blk} {nx:Nat} (hev:∀ x a,ev x=some a→VR e a (ρ x)) (hS:SR P e hp nx w) (o:Oper) {v:AV} {b:Option Blk} (h:fl P hp.get ev o nx o.op=some (v,b)) :
 match b with
 | none=>Does P e hp nx w (execOp ρ o) (.val v hp nx)
 | some b=>Does P e hp nx w (execOp ρ o) (.val v (hp.put nx b) (nx+1)):=by
 have hg:=Z5G hev hS.hr o (id:=nx) v b h
 cases b with
 | none=>
   obtain ⟨v',h1,h2⟩:=hg
   exact ⟨_,v',w,e,h1,.inl rfl,h2,hS,.refl⟩
 | some b=>
   obtain ⟨v',obj,h1,h2⟩:=hg
   have hfr:=hS.fresh nx (Nat.le_refl _)
   obtain ⟨h3,h4⟩:=h2 (e.add nx w.heap.size none) (Env.le_add hfr.1 hfr.2.1) Env.ρ_add_same Env.κ_add_same
   obtain ⟨h5,h6⟩:=hS.new h3
   exact ⟨_,v',_,_,h1,.inl rfl,h4,h5,h6⟩
end Go.Sy
