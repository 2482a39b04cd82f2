/-
 Code: the evaluator's answer holds, if the loops' oracle is right.
-/
import Derived.Test.YteiekijgoifhoaaGreatDoorB21
namespace Go.Proofs.YteiekijgoifhoaaGreatDoor
open Go.RowKit (Below)
def Post[Tabs](P:Program)(X:Nat→Prop)(lo:Nat→Prop)(N:Par)(w0:World)(out:Out):Exit→Act→World→Prop
 | .normal,a,w=>∃s μ,out=.normal s∧Rel P X lo N w0 s a w μ
 | .exit id,a,w=>∃s μ,out=.exit id s∧Rel P X lo N w0 s a w μ
 | .ret,a,w=>∃s μ,out=.ret s∧Rel P X lo N w0 s a w μ
 |_,_,_=>False
def Sound[Tabs](P:Program)(X:Nat→Prop)(lo:Nat→Prop)(N:Par)(w0:World)(c:Code)(f:St→Tr Out):Prop:=
 ∀s a w μ out,Rel P X lo N w0 s a w μ→(f s).ev=some out→c.wp P (Post P X lo N w0 out) a w
def loopsOf:Code→List (Nat×Code)
 | .seq a b=>loopsOf a++loopsOf b
 | .cond _ a b=>loopsOf a++loopsOf b
 | .block id (.loop b)=>(id,b)::loopsOf b
 | .block _ b=>loopsOf b
 |_=>[]
def codeChk(fz:Nat→Nat→List Nat)(k:List Nat)(n:Nat):Code→Bool
 | .region _ ops _=>ops.all (fun o=>match o.dst with|some d=> !has k d&&Nat.blt d n|none=>true)
 | .seq a b=>codeChk fz k n a&&codeChk fz k n b
 | .cond _ a b=>codeChk fz k n a&&codeChk fz k n b
 | .block _ (.loop b)=>codeChk fz k n b
 | .block _ b=>codeChk fz k n b
 |_=>true
section
variable {P:Program} {E:Env} {tt:Nat→TD} {fz:Nat→Nat→List Nat} {orc:Orc} {X:Nat→Prop} {lo:Nat→Prop} {N:Par} {w0:World}
theorem chk_dst{ops:Array Oper}(h:(ops.all fun o=>match o.dst with|some d=> !has N.k d&&Nat.blt d N.n|none=>true)=true)(j:Nat)(o:Oper)(d:Nat)(ho:ops[j]? =some o)(hd:o.dst=some d):N.has d:=by
 rw [xfp] at h
 obtain⟨hj,he⟩:=xau.1 ho
 have:=h j hj
 rw [he,hd] at this
 simp only [xg] at this
 exact⟨fun hm=>(by have h1:=this.1;rw [has_iff.2 hm] at h1;cases h1),xcr this.2⟩
theorem bind_some'{α β:Type}{x:Option α}{f:α→Option β}{y:β}(h:x.bind f=some y):∃a,x=some a∧f a=some y:=by
 cases x with
 |none=>cases h
 |some a=>exact⟨a,rfl,h⟩
theorem code_ok[Tabs](hm:P.follows .mixedOrders=true)(hE:EnvOK P E)(hT:TabOK P tt):∀ (c:Code),(∀p∈loopsOf c,Sound P X lo N w0 (.block p.1 (.loop p.2)) (fun s=>match orc p.1 s with|some x=>x|none=>.f))→codeChk fz N.k N.n c=true→
  Sound P X lo N w0 c (acode E tt fz orc c)
 | .skip,_,_=>fun s a w μ out h he=>by
  simp only [acode,Tr.ev_l,xc] at he
  subst he
  exact wp_skip ⟨s,μ,rfl,h⟩
 | .exit id,_,_=>fun s a w μ out h he=>by
  simp only [acode,Tr.ev_l,xc] at he
  subst he
  exact wp_exit ⟨s,μ,rfl,h⟩
 | .ret,_,_=>fun s a w μ out h he=>by
  simp only [acode,Tr.ev_l,xc] at he
  subst he
  exact wp_ret ⟨s,μ,rfl,h⟩
 | .region id ops draw,_,hc=>fun s a w μ out h he=>by
  simp only [codeChk] at hc
  simp only [acode,Tr.ev_bind] at he
  obtain⟨s',h1,h2⟩:=bind_some' he
  simp only [Tr.ev_l,xc] at h2
  subst h2
  exact region_ok hm hE hT (chk_dst hc) h h1 fun a' w' μ' h'=>⟨s',μ',rfl,h'⟩
 | .seq x y,hl,hc=>fun s a w μ out h he=>by
  simp only [codeChk,xg] at hc
  simp only [loopsOf,xq] at hl
  simp only [acode,Tr.ev_bind] at he
  obtain⟨o,h1,h2⟩:=bind_some' he
  refine wp_seq (Code.wp_mono (fun e a' w' hp=>?_) (code_ok hm hE hT x (fun p hp=>hl p (.inl hp)) hc.1 s a w μ o h h1))
  cases e with
  |normal=>
   obtain⟨s',μ',rfl,h'⟩:=hp
   exact code_ok hm hE hT y (fun p hp=>hl p (.inr hp)) hc.2 s' a' w' μ' out h' h2
  |exit id=>
   obtain⟨s',μ',rfl,h'⟩:=hp
   simp only [Tr.ev_l,xc] at h2
   subst h2
   exact⟨s',μ',rfl,h'⟩
  |ret=>
   obtain⟨s',μ',rfl,h'⟩:=hp
   simp only [Tr.ev_l,xc] at h2
   subst h2
   exact⟨s',μ',rfl,h'⟩
  |_=>exact hp.elim
 | .cond c x y,hl,hc=>fun s a w μ out h he=>by
  simp only [codeChk,xg] at hc
  simp only [loopsOf,xq] at hl
  simp only [acode] at he
  split at he
  next v hv=>
   have hr:=opd_rel h.fr c
   rw [hv] at hr
   simp only [Tr.ev_t] at he
   cases v with
   |true=>exact wp_cond hr.bool (code_ok hm hE hT x (fun p hp=>hl p (.inl hp)) hc.1 s a w μ out h (by simpa using he))
   |false=>exact wp_cond hr.bool (code_ok hm hE hT y (fun p hp=>hl p (.inr hp)) hc.2 s a w μ out h (by simpa using he))
  next=>cases he
 | .block id c,hl,hc=>fun s a w μ out h he=>by
  have plain:(∀b,c≠ .loop b)→(Code.block id c).wp P (Post P X lo N w0 out) a w:=fun aa=>by
   have ab:loopsOf (.block id c)=loopsOf c:=by
    cases c with
    |loop b=>exact absurd rfl (aa b)
    |_=>rfl
   have ad:codeChk fz N.k N.n (.block id c)=codeChk fz N.k N.n c:=by
    cases c with
    |loop b=>exact absurd rfl (aa b)
    |_=>rfl
   have ae:acode E tt fz orc (.block id c) s=(acode E tt fz orc c s).bind fun
     | .exit i s'=>match Nat.beq i id with
      |true=>.l (.normal s')
      |false=>.l (.exit i s')
     |o=>.l o:=by
    cases c with
    |loop b=>exact absurd rfl (aa b)
    |_=>rfl
   rw [ab] at hl
   rw [ad] at hc
   rw [ae,Tr.ev_bind] at he
   obtain⟨o,h1,h2⟩:=bind_some' he
   refine wp_block (Code.wp_mono (fun e a' w' hp=>?_) (code_ok hm hE hT c hl hc s a w μ o h h1))
   cases e with
   |normal=>
    obtain⟨s',μ',rfl,h'⟩:=hp
    simp only [Tr.ev_l,xc] at h2
    subst h2
    exact⟨s',μ',rfl,h'⟩
   |exit i=>
    obtain⟨s',μ',rfl,h'⟩:=hp
    simp only at h2
    simp only [Exit.inBlock]
    split at h2
    next hb=>
     simp only [Tr.ev_l,xc] at h2
     subst h2
     rw [if_pos (xe hb)]
     exact⟨s',μ',rfl,h'⟩
    next hb=>
     simp only [Tr.ev_l,xc] at h2
     subst h2
     rw [if_neg fun e=>by subst e;rw [beq_self] at hb;cases hb]
     exact⟨s',μ',rfl,h'⟩
   |ret=>
    obtain⟨s',μ',rfl,h'⟩:=hp
    simp only [Tr.ev_l,xc] at h2
    subst h2
    exact⟨s',μ',rfl,h'⟩
   |_=>exact hp.elim
  cases c with
  |loop b=>exact hl (id,b) (by simp [loopsOf]) s a w μ out h (by simp only [acode] at he;exact he)
  |_=>exact plain fun b=>by simp
 | .loop _,_,_=>fun s a w μ out h he=>by simp [acode] at he
 | .label _,_,_=>fun s a w μ out h he=>by simp [acode] at he
 | .goto _,_,_=>fun s a w μ out h he=>by simp [acode] at he
 | .scope _,_,_=>fun s a w μ out h he=>by simp [acode] at he
 | .refuse _,_,_=>fun s a w μ out h he=>by simp [acode] at he
 | .rangeFunc _ _ _ _,_,_=>fun s a w μ out h he=>by simp [acode] at he
end
theorem wp_loop_n{P:Program}{c:Code}{Q:Exit→Act→World→Prop}(I:Nat→Act→World→Prop)
  (round:∀n a w,I n a w→c.wp P (Exit.then (fun a' w'=>∃m,m<n∧I m a' w') Q) a w) {n:Nat} {a:Act} {w:World} (h:I n a w):(Code.loop c).wp P Q a w:=by
 intro b k cs
 have key:∀n a w,I n a w→∃e a' w',Q e a' w'∧Arrives P (lone (b.at a (.code c::.inLoop c::k)) cs w) b k cs e a' w':=by
  intro n
  induction n using Nat.strongRecOn with
  |_ n ih=>
   intro a w hI
   obtain⟨e,a₁,w₁,hq,aa⟩:=round n a w hI b (.inLoop c::k) cs
   cases e with
   |normal=>
    obtain⟨m,ad,ae⟩:=hq
    obtain⟨e₂,a₂,w₂,af,ab⟩:=ih m ad a₁ w₁ ae
    exact⟨e₂,a₂,w₂,af,.of_steps (Steps.trans aa (.one step_inLoop)) ab⟩
   |exit id=>exact⟨_,a₁,w₁,hq,.pass (x:=.inLoop c) rfl (fun _ _=>.inl (by simp)) aa⟩
   |goto l=>exact⟨_,a₁,w₁,hq,.pass (x:=.inLoop c) rfl (fun _ _=>.inl (by simp)) aa⟩
   |ret=>exact⟨_,a₁,w₁,hq,.pass (x:=.inLoop c) rfl (fun _ _=>.inl (by simp)) aa⟩
   |panic ch=>exact⟨_,a₁,w₁,hq,.pass (x:=.inLoop c) rfl (fun _ _=>.inl (by simp)) aa⟩
   |outgrown=>exact⟨_,a₁,w₁,hq,.pass (x:=.inLoop c) rfl (fun _ _=>.inl (by simp)) aa⟩
 obtain⟨e,a',w',hq,aa⟩:=key n a w h
 exact⟨e,a',w',hq,.of_steps (.one step_loop) aa⟩
end Go.Proofs.YteiekijgoifhoaaGreatDoor
