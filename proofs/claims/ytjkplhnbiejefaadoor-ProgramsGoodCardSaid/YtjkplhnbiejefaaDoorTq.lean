/-
  tree.need, tree.expr and tree.stmts: what they find, and that they panic with it: the contracts.
-/
import Derived.Test.YtjkplhnbiejefaaDoorUf
import Derived.Tactics
import Derived.Tactics2
import Derived.Defers
import Derived.Recover
import Derived.Laws.Pointers
import Derived.OneCell
namespace Go.Dm
open Go Go.Eng
theorem CT.weaken {P:Program} {G:Gl} {g:FuncId} {ds:List D} {Q Q':Out→Prop} (h:CT P G g ds Q) (hq:∀ o,Q o→Q' o):CT P G g ds Q':=fun w V vals hV hG hr =>
 (h w V vals hV hG hr).mono fun e w' he=>by
  cases e with
  | returned v=>obtain ⟨d,h',β',V',h1,h2⟩:=he;exact ⟨d,h',β',V',hq _ h1,h2⟩
  | panicked ch=>obtain ⟨d,t,u,β',V',h1,h2,h3⟩:=he;exact ⟨d,t,u,β',V',h1,hq _ h2,h3⟩
  | outgrown=>exact he.elim
end Go.Dm
namespace Go.Proofs.YtjkplhnbiejefaaDoor
open Go Go.Dm Go.Eng Barb

def panV (e:Int):D:=.iface 68 (.agg [.g (.int e)])
def RP (e:Int) (d:D):Out→Prop:=fun o=>(e=0∧o=.ret d [])∨(e≠0∧o=.pan (panV e))
theorem callRP {P:Program} {G:Gl} {g:FuncId} {ds es:List D} {e:Int} {d:D} {K:D→Heap→Prop} {Kp:D→Prop} (hl:likeA ds es) (hc:CT P G g es (RP e d)) (hk:e=0→K d []) (hp:e≠0→Kp (panV e)) :
  ∃ es Q,likeA ds es∧CT P G g es Q∧(∀ d h',Q (.ret d h')→K d h')∧(∀ d,Q (.pan d)→Kp d):=by
 refine ⟨es,_,hl,hc,fun d' h' hq=>?_,fun d' hq=>?_⟩
 ·rcases hq with ⟨h0,hq⟩ | ⟨_,hq⟩
  ·injection hq with e1 e2;subst e1;subst e2;exact hk h0
  ·cases hq
 ·rcases hq with ⟨_,hq⟩ | ⟨h0,hq⟩
  ·cases hq
  ·injection hq with e1;subst e1;exact hp h0
theorem panRP {e:Int} {d:D} {h:Heap} {v:Int} (hv:v≠0) (he:e=v):PanTo (RP e d) h (panV v):=panQ (panV v) rfl (.inr ⟨by rw[he];exact hv,by rw[he]⟩)
open Classical in
theorem need_any (p:Prop) (e:Int) (he:e≠0):CT Tryd.prog gl 15 [.pb p,.g (.int e)] (RP (if p then 0 else e) (.tuple [])):=by
 refine enter hT hF hM Tryd.func15 rfl 9 rfl (by kernel_rfl) [] rfl [.pb p,.g (.int e)] rfl _ ?_
 refine ⟨fun h=>⟨rfl,panRP he (if_neg h)⟩,fun h=>?_⟩
 exact ⟨rfl,retQ (.tuple []) (.inl rfl) (.inl ⟨if_pos h,rfl⟩)⟩
theorem callNeed {d:D} {p:Prop} {e:Int} (he:e≠0) {K:D→Heap→Prop} {Kp:D→Prop} (hl:Like N0 4 d (.pb p)) (hk:p→K (.tuple []) []) (hp:¬p→Kp (panV e)) :
  ∃ es Q,likeA [d,.g (.int e)] es∧CT Tryd.prog gl 15 es Q∧(∀ d h',Q (.ret d h')→K d h')∧(∀ d,Q (.pan d)→Kp d):=by
 have hc:CT Tryd.prog gl 15 [.pb p,.g (.int e)] _:=need_any p e he
 by_cases h:p
 ·rw[if_pos h] at hc
  exact callRP (es:=[.pb p,.g (.int e)]) (.inr ⟨hl,lk rfl,trivial⟩) hc (fun _=>hk h) (fun h0=>absurd rfl h0)
 ·rw[if_neg h] at hc
  exact callRP (es:=[.pb p,.g (.int e)]) (.inr ⟨hl,lk rfl,trivial⟩) hc (fun h0=>absurd h0 he) (fun _=>hp h)

end Go.Proofs.YtjkplhnbiejefaaDoor
/-
  tree.expr: what it finds wrong with an expression, it panics with: the contract.
-/
namespace Go.Proofs.YtjkplhnbiejefaaDoor
open Go Go.Dm Go.Eng Barb

set_option maxHeartbeats 1000000 in
theorem texpr_any:∀ (f:Nat) (x:Barb.Expr),x.I→∀ depth:Int,depth+f=13→0≤depth→CT Tryd.prog gl 22 [.agg x.d,.g (.int depth)] (RP (exprE f x) (.tuple [])):=by
 intro f
 induction f with
 | zero =>
  intro x _ depth hd _
  refine enter hT hF hM Tryd.func22 rfl 141 rfl (by kernel_rfl) [] rfl [.agg x.d,.g (.int depth)] rfl _ ?_
  exact callNeed (p:=depth≤12) (by decide) (lkP Iff.rfl) (fun h=>absurd h (by omega)) (fun _=>⟨rfl,panRP (by decide) rfl⟩)
 | succ f ih =>
  intro x hx depth hd hd0
  obtain ⟨hk,hn,ho,hs,ha,hI⟩:=hx.inv
  have e:=exprE_succ f x
  have hl:(x.args.map Expr.g).length=x.args.length:=by simp
  refine enter hT hF hM Tryd.func22 rfl 141 rfl (by kernel_rfl) [] rfl [.agg x.d,.g (.int depth)] rfl _ ?_
  refine stepS ⟨?_⟩
  refine stepS ?_
  refine callNeed (p:=depth≤12) (by decide) (lkP Iff.rfl) (fun _=>⟨?_⟩) (fun h=>absurd (by omega) h)
  refine seqJ (ι:=PUnit) (fun _=>[(2,.ptr 0 0),(1,.g (.int depth))]) (fun _=>[.blk x.d 29]) (fun _=>1≤x.k∧x.k≤5) (fun e0 _ h2=>?_) (fun Rj hRj=>?_)
  rotate_left
  ·refine ⟨fun a1=>?_,fun a1=>?_⟩
   ·exact callNeed (p:=1≤x.k∧x.k≤5) (by decide) (lkP ⟨fun h=>⟨a1,h⟩,fun h=>h.2⟩) (fun h=>hRj ⟨⟩ _ ⟨rfl,rfl,trivial⟩ h) (fun h=>⟨rfl,panRP (by decide) (by rw[e,if_pos h])⟩)
   ·exact callNeed (p:=1≤x.k∧x.k≤5) (by decide) (lkBP ⟨fun h=>(by cases h),fun h=>absurd h.1 a1⟩) (fun h=>absurd h.1 a1) (fun h=>⟨rfl,panRP (by decide) (by rw[e,if_pos h])⟩)
  rw[if_neg (Classical.not_not.2 h2)] at e
  refine stepS ⟨?_⟩
  refine stepS ?_
  refine callNeed (p:=¬4 < x.args.length) (by decide) (lkP (by omega)) (fun h3=>⟨?_⟩) (fun h3=>⟨rfl,panRP (by decide) (by rw[e,if_pos (by omega)])⟩)
  rw[if_neg h3] at e
  refine seqJ (ι:=PUnit) (fun _=>[(2,.ptr 0 0),(1,.g (.int depth))]) (fun _=>[.blk x.d 29]) (fun _=>exprOk x.k x.n x.of x.s x.args.length∧¬exprBad x.k x.n) (fun e0 _ h45=>?_) (fun Rj hRj=>?_)
  rotate_left
  ·have pan4:∀ hh:Heap,¬exprOk x.k x.n x.of x.s x.args.length→PanTo (RP (exprE (f+1) x) (.tuple [])) hh (panV 4):=fun hh h4=>panRP (by decide) (by rw[e,if_pos h4])
   have pan2:∀ hh:Heap,exprOk x.k x.n x.of x.s x.args.length→exprBad x.k x.n→PanTo (RP (exprE (f+1) x) (.tuple [])) hh (panV 2):=fun hh h4 h5=>panRP (by decide) (by rw[e,if_neg (Classical.not_not.2 h4),if_pos h5])
   have ok:∀ (k':Int),x.k=k'→(exprOk x.k x.n x.of x.s x.args.length↔exprOk k' x.n x.of x.s x.args.length):=fun k' hk'=>by rw[hk']
   have hl0:∀ m:Nat,((List.map Expr.g x.args).length:Int)=(m:Int)↔x.args.length=m:=fun m=>by rw[hl];omega
   have bad:∀ k',x.k=k'→k'≠1→k'≠5→¬exprBad x.k x.n:=fun k' h0 h1 h5=>by unfold exprBad;omega
   clear e
   generalize hP:exprOk x.k x.n x.of x.s x.args.length=P at *
   have noP:∀ hh:Heap,¬P→∀ K:D→Heap→Prop,∀ Kp:D→Prop,(¬P→Kp (panV 4))→∃ es Q,likeA [.g (.bool false),.g (.int 4)] es∧CT Tryd.prog gl 15 es Q∧(∀ d h',Q (.ret d h')→K d h')∧(∀ d,Q (.pan d)→Kp d) :=
    fun _ h K Kp hp=>callNeed (p:=P) (by decide) (lkBP ⟨fun h=>(by cases h),fun hp=>absurd hp h⟩) (fun hp=>absurd hp h) hp
   refine ⟨fun b1=>?_,fun b1=>⟨fun b2=>?_,fun b2=>⟨fun b3=>?_,fun b3=>⟨fun b4=>?_,fun b4=>?_⟩⟩⟩⟩
   ·have o:=(ok 1 b1).trans exprOk_1
    refine ⟨fun c1=>⟨fun c2=>?_,fun c2=>?_⟩,fun c1=>?_⟩
    ·refine callNeed (p:=P) (by decide) (lkP ⟨fun c3=>o.2 ⟨c1,c2,(hl0 0).1 c3⟩,fun c3=>(hl0 0).2 (o.1 c3).2.2⟩) (fun h4=>?_) (fun h4=>⟨rfl,pan4 _ h4⟩)
     refine callIs (.inl rfl) (Is_any x.n) ?_
     exact callNeed (p:=¬exprBad x.k x.n) (by decide) (lkP (by unfold exprBad;omega)) (fun h5=>hRj ⟨⟩ _ ⟨rfl,rfl,trivial⟩ ⟨h4,h5⟩) (fun h5=>⟨rfl,pan2 _ h4 (Classical.not_not.1 h5)⟩)
    ·exact noP [] (fun h=>c2 (o.1 h).2.1) _ _ (fun h4=>⟨rfl,pan4 _ h4⟩)
    ·exact noP [] (fun h=>c1 (o.1 h).1) _ _ (fun h4=>⟨rfl,pan4 _ h4⟩)
   ·have o:=(ok 2 b2).trans exprOk_2
    refine ⟨fun c1=>callIs (.inl rfl) (Ident_any x.s hs) ⟨fun c2=>⟨fun c3=>?_,fun c3=>?_⟩,fun c2=>?_⟩,fun c1=>?_⟩
    ·exact callNeed (p:=P) (by decide) (lkP ⟨fun c4=>o.2 ⟨c1,c2,(hl0 0).1 c3,c4⟩,fun c4=>(o.1 c4).2.2.2⟩) (fun h4=>hRj ⟨⟩ _ ⟨rfl,rfl,trivial⟩ ⟨h4,bad 2 b2 (by decide) (by decide)⟩) (fun h4=>⟨rfl,pan4 _ h4⟩)
    ·exact noP [] (fun c4=>c3 ((hl0 0).2 (o.1 c4).2.2.1)) _ _ (fun h4=>⟨rfl,pan4 _ h4⟩)
    ·exact noP [] (fun c4=>c2 (o.1 c4).2.1) _ _ (fun h4=>⟨rfl,pan4 _ h4⟩)
    ·exact noP [] (fun c4=>c1 (o.1 c4).1) _ _ (fun h4=>⟨rfl,pan4 _ h4⟩)
   ·have o:=(ok 3 b3).trans exprOk_3
    refine ⟨fun c1=>callIs (.inl rfl) (Ident_any x.s hs) ⟨fun c2=>⟨fun c3=>?_,fun c3=>?_⟩,fun c2=>?_⟩,fun c1=>?_⟩
    ·exact callNeed (p:=P) (by decide) (lkP ⟨fun c4=>o.2 ⟨c1,c2,(hl0 1).1 c3,c4⟩,fun c4=>(o.1 c4).2.2.2⟩) (fun h4=>hRj ⟨⟩ _ ⟨rfl,rfl,trivial⟩ ⟨h4,bad 3 b3 (by decide) (by decide)⟩) (fun h4=>⟨rfl,pan4 _ h4⟩)
    ·exact noP [] (fun c4=>c3 ((hl0 1).2 (o.1 c4).2.2.1)) _ _ (fun h4=>⟨rfl,pan4 _ h4⟩)
    ·exact noP [] (fun c4=>c2 (o.1 c4).2.1) _ _ (fun h4=>⟨rfl,pan4 _ h4⟩)
    ·exact noP [] (fun c4=>c1 (o.1 c4).1) _ _ (fun h4=>⟨rfl,pan4 _ h4⟩)
   ·have o:=(ok 4 b4).trans exprOk_4
    have b':=bad 4 b4 (by decide) (by decide)
    refine callIs (.inl rfl) (Ident_any x.s hs) ⟨fun c2=>⟨fun c1=>?_,fun c1=>callIs (.inl rfl) (Ident_any x.of ho) ⟨fun c0=>?_,fun c0=>?_⟩⟩,fun c2=>?_⟩
    ·exact callNeed (p:=P) (by decide) (lkP ⟨fun c4=>o.2 ⟨.inl c1,c2,c4⟩,fun c4=>(o.1 c4).2.2⟩) (fun h4=>hRj ⟨⟩ _ ⟨rfl,rfl,trivial⟩ ⟨h4,b'⟩) (fun h4=>⟨rfl,pan4 _ h4⟩)
    ·exact callNeed (p:=P) (by decide) (lkP ⟨fun c4=>o.2 ⟨.inr c0,c2,c4⟩,fun c4=>(o.1 c4).2.2⟩) (fun h4=>hRj ⟨⟩ _ ⟨rfl,rfl,trivial⟩ ⟨h4,b'⟩) (fun h4=>⟨rfl,pan4 _ h4⟩)
    ·exact noP [] (fun c4=>(o.1 c4).1.elim c1 c0) _ _ (fun h4=>⟨rfl,pan4 _ h4⟩)
    ·exact noP [] (fun c4=>c2 (o.1 c4).2.1) _ _ (fun h4=>⟨rfl,pan4 _ h4⟩)
   ·have b5:x.k=5:=by omega
    have o:=(ok 5 b5).trans exprOk_5
    refine ⟨fun c1=>⟨fun c2=>?_,fun c2=>?_⟩,fun c1=>?_⟩
    ·refine callNeed (p:=P) (by decide) (lkP ⟨fun c3=>o.2 ⟨c1,c2,(hl0 2).1 c3⟩,fun c3=>(hl0 2).2 (o.1 c3).2.2⟩) (fun h4=>?_) (fun h4=>⟨rfl,pan4 _ h4⟩)
     refine ⟨fun d1=>?_,fun d1=>?_⟩
     ·exact callNeed (p:=¬exprBad x.k x.n) (by decide) (lkP (by unfold exprBad;omega)) (fun h5=>hRj ⟨⟩ _ ⟨rfl,rfl,trivial⟩ ⟨h4,h5⟩) (fun h5=>⟨rfl,pan2 _ h4 (Classical.not_not.1 h5)⟩)
     ·exact callNeed (p:=¬exprBad x.k x.n) (by decide) (lkBP ⟨fun h=>(by cases h),fun h=>absurd (by unfold exprBad;omega) h⟩) (fun h5=>absurd (by unfold exprBad;omega) h5) (fun h5=>⟨rfl,pan2 _ h4 (Classical.not_not.1 h5)⟩)
    ·exact noP [] (fun c3=>c2 (o.1 c3).2.1) _ _ (fun h4=>⟨rfl,pan4 _ h4⟩)
    ·exact noP [] (fun c3=>c1 (o.1 c3).1) _ _ (fun h4=>⟨rfl,pan4 _ h4⟩)
  rw[if_neg (Classical.not_not.2 h45.1),if_neg h45.2] at e
  refine loopR (ι:=Nat) (fun i=>[(132,.g (.int (i:Int)))]) (fun _=>[]) (fun i=>i≤x.args.length∧∀ j (hj:j < x.args.length),j < i→exprE f x.args[j]=0) (fun i=>x.args.length - i)
   ⟨0,[],⟨rfl,.inl rfl,.inr ⟨lk rfl,trivial⟩,rfl⟩,Nat.zero_le _,none0⟩ ?_
  intro Rd hRd i ⟨hi,ha'⟩
  refine ⟨fun h6=>?_,fun h6=>?_⟩
  ·have h7:i < x.args.length:=by omega
   refine ⟨i,_,rfl,(gm h7).trans (congrArg some (Expr.g_eq _)),?_⟩
   refine ⟨_,I64.wrap (by unfold I64;omega),?_⟩
   refine callRP (.inl rfl) (ih x.args[i] (hI _ (List.getElem_mem _)) (depth+1) (by omega) (by omega)) (fun h8=>?_) (fun h8=>⟨rfl,panRP h8 (by rw[e,firstE_at h7 ha' h8])⟩)
   refine ⟨_,I64.wrap (by unfold I64;omega),?_⟩
   exact hRd _ _ _ ⟨i+1,[],⟨rfl,.inl rfl,.inr ⟨lk rfl,trivial⟩,rfl⟩,⟨h7,firstE_step h7 ha' h8⟩,by omega⟩
  ·exact ⟨rfl,retQ (.tuple []) (.inl rfl) (.inl ⟨by rw[e,firstE_end (by omega) ha'],rfl⟩)⟩
end Go.Proofs.YtjkplhnbiejefaaDoor
/-
  tree.stmts: what it finds wrong with statements, it panics with: the contract.
-/
namespace Barb
open Go Go.Dm Go.Eng
theorem wrap4 (m a b:Int):IntKind.i64.wrap (IntKind.i64.wrap m+IntKind.i64.wrap (IntKind.i64.wrap a+IntKind.i64.wrap b))=IntKind.i64.wrap (m+(a+b)):=by
 rw[wrap_add (a:=a),wrap_add' (a:=a),wrap_add,wrap_add']
theorem identP_ne {s:Str} (h:identP s):s≠[]:=fun e=>by
 subst e
 have:=h.1.1.1
 simp at this
abbrev kpT (depth m:Int) (i:Nat):List (Nat × D):=[(1,.g (.int depth)),(5,.g (.int m)),(19,.g (.int (i:Int))),(7,.ptr 0 0)]
end Barb
namespace Go.Proofs.YtjkplhnbiejefaaDoor
open Go Go.Dm Go.Eng Barb

set_option maxHeartbeats 1000000 in
theorem tstmts_any:∀ (f:Nat) (l:List Barb.Stmt),(∀ x∈l,Barb.Stmt.I x)→l.length*96≤140737488351232→∀ depth:Int,depth+f=13→0≤depth→CT Tryd.prog gl 17 [.g (.sl 5 (l.map Stmt.g)),.g (.int depth)] (RP (stmtsE f l) (.g (.int (IntKind.i64.wrap (stmtsN f l))))):=by
 intro f
 induction f with
 | zero =>
  intro l _ _ depth hd _
  refine enter hT hF hM Tryd.func17 rfl 116 rfl (by kernel_rfl) [.tmp 4] rfl [.g (.sl 5 (l.map Stmt.g)),.g (.int depth)] rfl _ ?_
  exact callNeed (p:=depth≤12) (by decide) (lkP Iff.rfl) (fun h=>absurd h (by omega)) (fun _=>⟨rfl,panRP (by decide) rfl⟩)
 | succ f ih =>
  intro l hI hlen depth hd hd0
  have hl:(l.map Stmt.g).length=l.length:=by simp
  refine enter hT hF hM Tryd.func17 rfl 116 rfl (by kernel_rfl) [.tmp 4] rfl [.g (.sl 5 (l.map Stmt.g)),.g (.int depth)] rfl _ ?_
  refine stepS ⟨?_⟩
  refine stepS ?_
  refine callNeed (p:=depth≤12) (by decide) (lkP Iff.rfl) (fun _=>⟨?_⟩) (fun h=>absurd (by omega) h)
  refine loopR (ι:=Nat) (fun i=>[(5,.g (.int (IntKind.i64.wrap (sumAtF f l i)))),(19,.g (.int (i:Int)))]) (fun _=>[]) (fun i=>i≤l.length∧∀ j (hj:j < l.length),j < i→stmtE1 (stmtsE f) l[j]=0) (fun i=>l.length - i)
   ⟨0,[],⟨rfl,.inl rfl,.inr ⟨lkI (by rw[hl,I64.wrap (by simp[sumAtF,I64];omega)];simp[sumAtF]),lk rfl,trivial⟩,rfl⟩,Nat.zero_le _,none0⟩ ?_
  intro Rd hRd i ⟨hi,ha⟩
  refine ⟨fun h0=>?_,fun h0=>?_⟩
  rotate_left
  ·have hz:stmtsE (f+1) l=0:=firstE_end (by rw[hl] at h0;omega) ha
   have hil:i=l.length:=by rw[hl] at h0;omega
   exact ⟨rfl,retQ (.g (.int (IntKind.i64.wrap (sumAtF f l i)))) (.inl rfl) (.inl ⟨hz,by rw[hil];simp[sumAtF,stmtsN]⟩)⟩
  have h1:i < l.length:=by rw[hl] at h0;omega
  have fin:∀ v:Int,v≠0→stmtE1 (stmtsE f) l[i]=v→∀ h:Heap,PanTo (RP (stmtsE (f+1) l) (.g (.int (IntKind.i64.wrap (stmtsN (f+1) l))))) h (panV v):=by
   intro v hv he h
   refine panRP hv ?_
   have:stmtsE (f+1) l=firstE (stmtE1 (stmtsE f)) l:=rfl
   rw[this,firstE_at h1 ha (by rw[he];exact hv),he]
  have hsucc:=sumAtF_succ (f:=f) h1
  obtain ⟨hk,hs,hxl,hbl,hel,hxI,hbI,heI⟩:=(hI l[i] (List.getElem_mem _)).inv
  have e:=stmtE1_eq (stmtsE f) l[i]
  have next:∀ v,stmtE1 (stmtsE f) l[i]=v→v=0→∀ j (hj:j < l.length),j < i+1→stmtE1 (stmtsE f) l[j]=0:=fun v hv h0=>firstE_step h1 ha (hv.trans h0)
  refine stepS ?_
  refine stepS ?_
  refine ⟨i,_,rfl,(gm h1).trans (congrArg some (Stmt.g_eq _)),⟨?_⟩⟩
  generalize l[i]=y at *
  refine seqJ (ι:=PUnit) (fun _=>kpT depth (IntKind.i64.wrap (sumAtF f l i)) i) (fun _=>[.blk y.d 34]) (fun _=>1≤y.k∧y.k≤6) (fun e0 _ h2=>?_) (fun Rj hRj=>?_)
  rotate_left
  ·refine ⟨fun a1=>?_,fun a1=>?_⟩
   ·exact callNeed (p:=1≤y.k∧y.k≤6) (by decide) (lkP ⟨fun h=>⟨a1,h⟩,fun h=>h.2⟩) (fun h=>hRj ⟨⟩ _ ⟨rfl,rfl,rfl,rfl,trivial⟩ h) (fun h=>⟨rfl,fin 3 (by decide) (by rw[e,if_pos h]) _⟩)
   ·exact callNeed (p:=1≤y.k∧y.k≤6) (by decide) (lkBP ⟨fun h=>(by cases h),fun h=>absurd h.1 a1⟩) (fun h=>absurd h.1 a1) (fun h=>⟨rfl,fin 3 (by decide) (by rw[e,if_pos h]) _⟩)
  rw[if_neg (Classical.not_not.2 h2)] at e
  refine seqJ (ι:=D) (fun d=>kpT depth (IntKind.i64.wrap (sumAtF f l i)) i++[(8,d)]) (fun _=>[.blk y.d 34]) (fun d=>(d=.g (.bool true)∧y.k=1)∨(d=.pb (y.k=2)∧y.k≠1)) (fun e1 d h8=>?_) (fun Rj hRj=>?_)
  rotate_left
  ·exact ⟨fun a1=>hRj _ _ ⟨rfl,rfl,rfl,rfl,rfl,trivial⟩ (.inl ⟨rfl,a1⟩),fun a1=>hRj _ _ ⟨rfl,rfl,rfl,rfl,rfl,trivial⟩ (.inr ⟨rfl,a1⟩)⟩
  refine stepS ⟨?_⟩
  refine seqJ (ι:=PUnit) (fun _=>kpT depth (IntKind.i64.wrap (sumAtF f l i)) i++[(8,d),(9,.g (.int (nOf y.k)))]) (fun _=>[.blk y.d 34]) (fun _=>True) (fun e2 _ _=>?_) (fun Rj hRj=>?_)
  rotate_left
  ·refine ⟨fun h3=>hRj ⟨⟩ _ ⟨rfl,rfl,rfl,rfl,rfl,(by rw[nOf,if_pos h3];rfl),trivial⟩ trivial,fun h3=>hRj ⟨⟩ _ ⟨rfl,rfl,rfl,rfl,rfl,(by rw[nOf,if_neg h3];rfl),trivial⟩ trivial⟩
  have hx:(y.xs.map Expr.g).length=y.xs.length:=by simp
  have hb':(y.b.map Stmt.g).length=y.b.length:=by simp
  have he':(y.e.map Stmt.g).length=y.e.length:=by simp
  refine seqJ (ι:=PUnit) (fun _=>kpT depth (IntKind.i64.wrap (sumAtF f l i)) i) (fun _=>[.blk y.d 34]) (fun _=>¬bad1 y.k y.s y.xs.length) (fun e3 _ hb1=>?_) (fun Rj hRj=>?_)
  rotate_left
  ·have pan4:∀ hh:Heap,¬¬bad1 y.k y.s y.xs.length→PanTo (RP (stmtsE (f+1) l) (.g (.int (IntKind.i64.wrap (stmtsN (f+1) l))))) hh (panV 4):=fun hh h4=>fin 4 (by decide) (by rw[e,if_pos (fun h=>h4 (stmtOk_iff.1 h).1)]) hh
   have fls:∀ hh:Heap,bad1 y.k y.s y.xs.length→∀ K:D→Heap→Prop,∀ Kp:D→Prop,Kp (panV 4)→∃ es Q,likeA [.g (.bool false),.g (.int 4)] es∧CT Tryd.prog gl 15 es Q∧(∀ d h',Q (.ret d h')→K d h')∧(∀ d,Q (.pan d)→Kp d) :=
    fun _ h K Kp hp=>callNeed (p:=¬bad1 y.k y.s y.xs.length) (by decide) (lkBP ⟨fun h=>(by cases h),fun hp=>absurd h hp⟩) (fun hp=>absurd h hp) (fun _=>hp)
   have b1:bad1 y.k y.s y.xs.length↔¬((y.k≤2→identP y.s)∧(2 < y.k→y.s=[])∧(y.xs.length:Int)=nOf y.k):=Iff.rfl
   clear e
   rcases h8 with ⟨rfl,hk1⟩ | ⟨rfl,hk1⟩
   ·refine ⟨fun a1=>callIs (.inl rfl) (Ident_any y.s hs) ⟨fun a2=>?_,fun a2=>?_⟩,fun a1=>?_⟩
    ·exact callNeed (p:=¬bad1 y.k y.s y.xs.length) (by decide) (lkP (by rw[b1,hx,Classical.not_not];exact ⟨fun h=>⟨fun _=>a2,fun h'=>absurd h' (by omega),h⟩,fun h=>h.2.2⟩)) (fun h4=>hRj ⟨⟩ _ ⟨rfl,rfl,rfl,rfl,trivial⟩ h4) (fun h4=>⟨rfl,pan4 _ h4⟩)
    ·have hb:bad1 y.k y.s y.xs.length:=fun h=>a2 (h.1 (by omega))
     exact fls [] hb _ _ ⟨rfl,pan4 _ (fun h=>h hb)⟩
    ·have hb:bad1 y.k y.s y.xs.length:=fun h=>a1 ⟨fun _=>identP_ne (h.1 (by omega)),fun _=>rfl⟩
     exact fls [] hb _ _ ⟨rfl,pan4 _ (fun h=>h hb)⟩
   ·refine ⟨fun a1=>⟨fun a2=>?_,fun a2=>?_⟩,fun a1=>?_⟩
    ·have hs0:y.s=[]:=Classical.not_not.1 (fun h=>a2 (a1.2 h))
     exact callNeed (p:=¬bad1 y.k y.s y.xs.length) (by decide) (lkP (by rw[b1,hx,Classical.not_not];exact ⟨fun h=>⟨fun h'=>absurd h' (by omega),fun _=>hs0,h⟩,fun h=>h.2.2⟩)) (fun h4=>hRj ⟨⟩ _ ⟨rfl,rfl,rfl,rfl,trivial⟩ h4) (fun h4=>⟨rfl,pan4 _ h4⟩)
    ·refine callIs (.inl rfl) (Ident_any y.s hs) ⟨fun a3=>?_,fun a3=>?_⟩
     ·exact callNeed (p:=¬bad1 y.k y.s y.xs.length) (by decide) (lkP (by rw[b1,hx,Classical.not_not];exact ⟨fun h=>⟨fun _=>a3,fun h'=>absurd h' (by omega),h⟩,fun h=>h.2.2⟩)) (fun h4=>hRj ⟨⟩ _ ⟨rfl,rfl,rfl,rfl,trivial⟩ h4) (fun h4=>⟨rfl,pan4 _ h4⟩)
     ·have hb:bad1 y.k y.s y.xs.length:=fun h=>a3 (h.1 (by omega))
      exact fls [] hb _ _ ⟨rfl,pan4 _ (fun h=>h hb)⟩
    ·have hb:bad1 y.k y.s y.xs.length:=fun h=>a1 ⟨fun hk2=>identP_ne (h.1 (by omega)),fun hs0=>Classical.byContradiction fun hk2=>hs0 (h.2.1 (by omega))⟩
     exact fls [] hb _ _ ⟨rfl,pan4 _ (fun h=>h hb)⟩
  refine seqJ (ι:=PUnit) (fun _=>kpT depth (IntKind.i64.wrap (sumAtF f l i)) i) (fun _=>[.blk y.d 34]) (fun _=>¬bad2 y.k y.b.length y.e.length) (fun e4 _ hb2=>?_) (fun Rj hRj=>?_)
  rotate_left
  ·have pan4:∀ hh:Heap,¬¬bad2 y.k y.b.length y.e.length→PanTo (RP (stmtsE (f+1) l) (.g (.int (IntKind.i64.wrap (stmtsN (f+1) l))))) hh (panV 4):=fun hh h4=>fin 4 (by decide) (by rw[e,if_pos (fun h=>h4 (stmtOk_iff.1 h).2)]) hh
   have fls:∀ hh:Heap,bad2 y.k y.b.length y.e.length→∀ K:D→Heap→Prop,∀ Kp:D→Prop,Kp (panV 4)→∃ es Q,likeA [.g (.bool false),.g (.int 4)] es∧CT Tryd.prog gl 15 es Q∧(∀ d h',Q (.ret d h')→K d h')∧(∀ d,Q (.pan d)→Kp d) :=
    fun _ h K Kp hp=>callNeed (p:=¬bad2 y.k y.b.length y.e.length) (by decide) (lkBP ⟨fun h=>(by cases h),fun hp=>absurd h hp⟩) (fun hp=>absurd h hp) (fun _=>hp)
   have tru:∀ hh:Heap,¬bad2 y.k y.b.length y.e.length→∀ K:D→Heap→Prop,∀ Kp:D→Prop,K (.tuple []) []→∃ es Q,likeA [.g (.bool true),.g (.int 4)] es∧CT Tryd.prog gl 15 es Q∧(∀ d h',Q (.ret d h')→K d h')∧(∀ d,Q (.pan d)→Kp d) :=
    fun _ h K Kp hp=>callNeed (p:=¬bad2 y.k y.b.length y.e.length) (by decide) (lkBP ⟨fun _=>h,fun _=>rfl⟩) (fun _=>hp) (fun hp=>absurd h hp)
   have b2:bad2 y.k y.b.length y.e.length↔¬((y.b.length=0∨y.k=3∨y.k=4)∧(y.e.length=0∨y.k=3)):=Iff.rfl
   clear e
   refine ⟨fun a1=>⟨fun a2=>?_,fun a2=>absurd a1 a2⟩,fun a1=>⟨fun a2=>⟨fun a3=>absurd a3 a1,fun a3=>?_⟩,fun a2=>⟨fun a3=>⟨fun a4=>absurd a4 a1,fun a4=>?_⟩,fun a3=>?_⟩⟩⟩
   ·have hz:¬bad2 y.k y.b.length y.e.length:=by rw[b2];omega
    exact tru [] hz _ _ (hRj ⟨⟩ _ ⟨rfl,rfl,rfl,rfl,trivial⟩ hz)
   ·exact callNeed (p:=¬bad2 y.k y.b.length y.e.length) (by decide) (lkP (by rw[b2,he'];omega)) (fun h4=>hRj ⟨⟩ _ ⟨rfl,rfl,rfl,rfl,trivial⟩ h4) (fun h4=>⟨rfl,pan4 _ h4⟩)
   ·exact callNeed (p:=¬bad2 y.k y.b.length y.e.length) (by decide) (lkP (by rw[b2,he'];omega)) (fun h4=>hRj ⟨⟩ _ ⟨rfl,rfl,rfl,rfl,trivial⟩ h4) (fun h4=>⟨rfl,pan4 _ h4⟩)
   ·have hb:bad2 y.k y.b.length y.e.length:=by rw[b2];omega
    exact fls [] hb _ _ ⟨rfl,pan4 _ (fun h=>h hb)⟩
  rw[if_neg (Classical.not_not.2 (stmtOk_iff.2 ⟨hb1,hb2⟩))] at e
  have hnx:(y.xs.length:Int)=nOf y.k:=(Classical.not_not.1 hb1).2.2
  clear h8
  refine loopR (ι:=Nat) (fun k=>[(94,.g (.int (k:Int))),(7,.ptr 0 0)]) (fun _=>[.blk y.d 34]) (fun k=>k≤y.xs.length∧∀ j (hj:j < y.xs.length),j < k→exprE 12 y.xs[j]=0) (fun k=>y.xs.length - k)
   ⟨0,[.old 0],⟨rfl,.inl rfl,.inr ⟨lk rfl,lk rfl,trivial⟩,rfl⟩,Nat.zero_le _,none0⟩ ?_
  intro Rk hRk k ⟨hk1,hk2⟩
  refine ⟨fun c0=>?_,fun c0=>?_⟩
  ·have c1:k < y.xs.length:=by omega
   refine ⟨k,_,rfl,(gm c1).trans (congrArg some (Expr.g_eq _)),?_⟩
   refine callRP (.inl rfl) (texpr_any 12 y.xs[k] (hxI _ (List.getElem_mem _)) 1 (by decide) (by decide)) (fun c2=>?_) (fun c2=>⟨rfl,fin _ c2 (by rw[e,if_pos (by rw[firstE_at c1 hk2 c2];exact c2),firstE_at c1 hk2 c2]) _⟩)
   refine ⟨_,I64.wrap (by unfold I64;omega),?_⟩
   exact hRk _ _ _ ⟨k+1,[.old 0],⟨rfl,.inl rfl,.inr ⟨lk rfl,lk rfl,trivial⟩,rfl⟩,⟨c1,firstE_step c1 hk2 c2⟩,by omega⟩
  ·have hx0:firstE (exprE 12) y.xs=0:=firstE_end (by omega) hk2
   rw[if_neg (fun h=>h hx0)] at e
   have cb:=ih y.b hbI hbl (depth+1) (by omega) (by omega)
   have ce:=ih y.e heI hel (depth+1) (by omega) (by omega)
   by_cases c3:stmtsE f y.b≠0
   ·rw[if_pos c3] at e
    exact ⟨some 5,rfl,_,I64.wrap (by unfold I64;omega),_,.any,panV (stmtsE f y.b),.inl rfl,cb.weaken (fun o ho=>ho.elim (fun h=>absurd h.1 c3) (fun h=>h.2)),rfl,fun _ _=>⟨rfl,fin _ c3 e _⟩,_,I64.wrap (by unfold I64;omega),.any,.any,.any,.any,trivial⟩
   ·have c3':=Classical.not_not.1 c3
    rw[if_neg c3] at e
    have cb':=cb.weaken (Q':=Is (.g (.int (IntKind.i64.wrap (stmtsN f y.b))))) (fun o ho=>ho.elim (fun h=>h.2) (fun h=>absurd h.1 c3))
    by_cases c4:stmtsE f y.e≠0
    ·exact ⟨some 10,rfl,_,I64.wrap (by unfold I64;omega),_,_,.inl rfl,cb',rfl,_,I64.wrap (by unfold I64;omega),_,.any,panV (stmtsE f y.e),.inl rfl,ce.weaken (fun o ho=>ho.elim (fun h=>absurd h.1 c4) (fun h=>h.2)),rfl,fun _ _=>⟨rfl,fin _ c4 e _⟩,.any,.any,.any,trivial⟩
    ·have c4':=Classical.not_not.1 c4
     have ce':=ce.weaken (Q':=Is (.g (.int (IntKind.i64.wrap (stmtsN f y.e))))) (fun o ho=>ho.elim (fun h=>h.2) (fun h=>absurd h.1 c4))
     refine ⟨none,rfl,_,I64.wrap (by unfold I64;omega),_,_,.inl rfl,cb',rfl,_,I64.wrap (by unfold I64;omega),_,_,.inl rfl,ce',rfl,_,rfl,_,rfl,?_⟩
     refine ⟨_,I64.wrap (by unfold I64;omega),?_⟩
     exact hRd _ _ _ ⟨i+1,[],⟨rfl,.inl rfl,.inr ⟨lkI (by rw[hsucc,wrap4]),lk rfl,trivial⟩,rfl⟩,⟨h1,next _ e c4'⟩,by omega⟩
end Go.Proofs.YtjkplhnbiejefaaDoor
/-
  tree.caught, deferred: what it does of a panic, and where there is none: the contracts.
-/
namespace Go.Proofs.YtjkplhnbiejefaaDoor
open Go Go.Dm Go.Eng Barb

theorem assert_fault (v:Value) (xT:TypeId) (w:World):(Instr.typeAssert (.iface 68 v) xT 68 true).run Tryd.prog w=.ok (.tuple #[v,.bool true]) w:=by kernel_rfl
theorem caught_idle (p:Addr) (w:World) :
  CallsD Tryd.prog 14 #[.pointer (some p)] .returning w fun e u' w'=>e=.returned (.tuple #[])∧u'=.returning∧w'=w:=by
 refine callsD_of_wpS Tryd.func14 rfl fun c₀ cs hu=>?_
 apply wpS_seq
 apply wpS_region
 simp[wpOpsS,go_sem,recoverD,hu,Tryd.ntmps14,Exit.thenS]
 apply wpS_seq
 apply wpS_seq
 apply wpS_region
 simp[wpOpsS,go_sem,Exit.thenS]
 refine wpS_cond (t:=true) (by simp[Act.eval,Array.replicate]) ?_
 simp only[if_true]
 refine wpS_of_wp (wp_ret ?_)
 cases c₀
 simp_all [bodyPostS,results,Tryd.results14,Exit.thenS]
theorem caught_panicking (p:Addr) (x e:Int) (w:World) (hc:∀ o,(w.alloc o).cell? p=some (.int .i64 x)) (hz:∀ o,(w.alloc o).frozen? p=false) :
  CallsD Tryd.prog 14 #[.pointer (some p)] (.panicking [{ v:=.iface 68 (.agg #[.int .i64 e]),recovered:=false }]) w fun en u' w' =>
   en=.returned (.tuple #[])∧u'=.panicking [{ v:=.iface 68 (.agg #[.int .i64 e]),recovered:=true }]∧∃ o,w'=(w.alloc o).setCell p (.int .i64 e):=by
 refine callsD_of_wpS Tryd.func14 rfl fun c₀ cs hu=>?_
 apply wpS_seq
 apply wpS_region
 simp[wpOpsS,go_sem,recoverD,hu,Tryd.ntmps14,Exit.thenS]
 apply wpS_seq
 apply wpS_seq
 apply wpS_region
 simp[wpOpsS,go_sem,Exit.thenS]
 refine wpS_cond (t:=false) (by simp[Act.eval,Array.replicate]) ?_
 simp only[Bool.false_eq_true,if_false]
 refine wpS_of_wp (wp_skip ?_)
 simp only[Exit.thenS]
 apply wpS_seq
 apply wpS_region
 simp[wpOpsS,go_sem,Exit.thenS,assert_fault]
 apply wpS_seq
 apply wpS_seq
 apply wpS_region
 simp[wpOpsS,go_sem,Exit.thenS]
 refine wpS_cond (t:=false) (by simp[Act.eval,Array.replicate]) ?_
 simp only[Bool.false_eq_true,if_false]
 refine wpS_of_wp (wp_skip ?_)
 simp only[Exit.thenS]
 apply wpS_region
 simp[wpOpsS,go_sem,hc,hz,bodyPostS,results,Tryd.results14]
 exact ⟨_,rfl⟩
end Go.Proofs.YtjkplhnbiejefaaDoor
/-
  A function that defers a call at its beginning, which turns what it panics with into its result: how it is entered. And tree.Check's contract.
-/
namespace Go.Dm
open Go Go.Eng Go.RowKit
def thenD (P:Program) (T:Tab) (F:FuncId→Bool) (G:Gl) (n:Nat) (rest:Code) (Q:Deferred→Post):Post
 | .normal,⟨env,h,df⟩=>df=[]∧∀ d,vc P T F G n rest ⟨env,h,[d]⟩ (Q d)
 | _,_=>False
def FinC (c:Nat) (tF:TypeId) (v:Int) (d:Deferred):Post
 | .normal,⟨env,h,df⟩ | .ret,⟨env,h,df⟩=>df=[d]∧∃ j t,env c=.ptr j 0∧h[j]?=some (.blk [.g (.int v)] t)
 | .pan x,⟨env,h,df⟩=>df=[d]∧x=.iface tF (.agg [.g (.int v)])∧∃ j y t,env c=.ptr j 0∧h[j]?=some (.blk [.g (.int y)] t)
 | .exit _,_=>False
section
variable {P:Program} {T:Tab} {F:FuncId→Bool} {G:Gl}
theorem cell_rel {w w2:World} {V V2:Nat→Prop} {h:Heap} {β:Nat→Value} (hrel:RelD ⟨w,fun _=>False,V,G⟩ h β V2 w2) {j:Nat} {y:Int} {t:TypeId} (hj:h[j]?=some (.blk [.g (.int y)] t)) {g:Nat} (hb:β j=.pointer (some ⟨g,0,none⟩)) (o:Go.Obj) (v:Int) :
  (∀ o,(w2.alloc o).cell? ⟨g,0,none⟩=some (.int .i64 y))∧(∀ o,(w2.alloc o).frozen? ⟨g,0,none⟩=false)∧RelD ⟨w,fun _=>False,V,G⟩ [.blk [.g (.int v)] t] (fun _=>.pointer (some ⟨g,0,none⟩)) V2 ((w2.alloc o).setCell ⟨g,0,none⟩ (.int .i64 v)):=by
 obtain ⟨g',us,hb',hg,hcs⟩:=hrel.obj j _ hj
 have e:g'=g:=by rw[hb] at hb';injection hb' with hb';injection hb' with hb';injection hb' with hb';exact hb'.symm
 subst e
 simp only[RepDL,RepD,RepV] at hcs
 obtain ⟨v',us',rfl,rfl,rfl⟩:=hcs
 have hlt:g' < w2.heap.size:=by
  rw[Array.getElem?_eq_some_iff] at hg
  exact hg.1
 have hga:∀ o,(w2.alloc o).heap[g']?=some (.cells #[.int .i64 y] t (0,0)):=fun o=>by
  simp only[World.alloc,Array.getElem?_push]
  rw[if_neg (by omega)]
  exact hg
 have hmin:w.heap.size≤g':=by
  rcases hrel.mine j _ g' hj rfl (by rw[hb];rfl) with h1 | h1
  ·exact h1
  ·exact h1.elim
 have hnV:¬V2 g':=hrel.vout j _ g' hj rfl (by rw[hb];rfl)
 have hoth:∀ k,k < w2.heap.size→k≠g'→((w2.alloc o).setCell ⟨g',0,none⟩ (.int .i64 v)).heap[k]?=w2.heap[k]?:=fun k hk hne=>by
  rw[Below.heap_setCell _ _ _ _ hne]
  simp only[World.alloc,Array.getElem?_push]
  rw[if_neg (by omega)]
 have hmv:Moved V2 w2 V2 ((w2.alloc o).setCell ⟨g',0,none⟩ (.int .i64 v)):=fun k hk=>⟨hk,hoth k (hrel.vlt k hk) (fun e=>hnV (e▸hk))⟩
 have one:∀ {i:Nat} {o':Obj},[Obj.blk [D.g (.int v)] t][i]?=some o'→i=0∧o'=.blk [D.g (.int v)] t:=fun {i o'} hi=>by
  cases i with
  | zero=>simp at hi;exact ⟨rfl,hi.symm⟩
  | succ i=>simp at hi
 refine ⟨fun o=>?_,fun o=>?_,⟨fun i o' hi=>?_,fun i j o1 o2 k hi _ hj _ _ _=>?_,fun i o' k hi _ hk=>?_,fun i o' k hi _ hk=>?_,fun k hk=>?_,hrel.vin,hrel.vnew,?_,hrel.gl.move hmv⟩⟩
 ·simp only[World.cell?,hga o]
  rfl
 ·simp only[World.frozen?,hga o]
  rfl
 ·obtain ⟨rfl,rfl⟩:=one hi
  exact ⟨g',[.int .i64 v],rfl,one_setCell (hga o),by simp only[RepDL,RepD,RepV];exact ⟨_,_,rfl,rfl,rfl⟩⟩
 ·rw[(one hi).1,(one hj).1]
 ·have:g'=k:=by obtain ⟨_,rfl⟩:=one hi;exact Option.some.inj hk
  subst this
  exact .inl hmin
 ·have:g'=k:=by obtain ⟨_,rfl⟩:=one hi;exact Option.some.inj hk
  subst this
  exact hnV
 ·rw[World.size_setCell,World.size_alloc]
  have:=hrel.vlt k hk
  omega
 ·refine ⟨hrel.fr.os,hrel.fr.tape,hrel.fr.output,?_,fun k hk hn=>?_⟩
  ·rw[World.size_setCell,World.size_alloc]
   have:=hrel.fr.size
   exact Nat.le_succ_of_le this
  ·have hk':k < w.heap.size:=hk
   have h2:w.heap.size≤w2.heap.size:=hrel.fr.size
   rw[hoth k (by omega) (by omega)]
   exact hrel.fr.block k hk hn
theorem enterD (hT:TabOk P T) (hF:∀ g,F g=true→fnOk P g=true) (hM:Mix P) {f:FuncId} {fn:Func} {r0 rd rest:Code} (hf:P.funcs[f]?=some fn) (hb:fn.body=some (.seq r0 (.seq rd rest))) (N:Nat) (hN:fn.ntmps=N) (hs0:allLt N (mods r0)=true) (hs1:allLt N (mods rest)=true)
  (c:Nat) (ty:TypeId) (hrs:fn.results.toList=[.cell c ty]) (hc:inL (mods rest) c=false) {ti:TI} (hti:T ty=some ti) (hagg:ti.agg=false) (args:List D) (hal:Nat.ble args.length N=true) (tF:TypeId) (g:FuncId)
  (hrd:∀ (Q:Exit→Act→World→Prop) (a:Act) (w:World),Q .normal { a with defers:={ target:=.fn (.func g) #[],args:=#[a.tmps.getD c undef] } :: a.defers } w→rd.wp P Q a w)
  (hinv:∀ x w,(invoke (.fn (.func g) #[]) #[x]).run P w=.ok (.enter g #[x]) w)
  (idle:∀ p w,CallsD P g #[.pointer (some p)] .returning w fun e u' w'=>e=.returned (.tuple #[])∧u'=.returning∧w'=w)
  (caught:∀ (p:Addr) (x e:Int) (w:World),(∀ o,(w.alloc o).cell? p=some (.int .i64 x))→(∀ o,(w.alloc o).frozen? p=false)→CallsD P g #[.pointer (some p)] (.panicking [{ v:=.iface tF (.agg #[.int .i64 e]),recovered:=false }]) w fun en u' w'=>en=.returned (.tuple #[])∧u'=.panicking [{ v:=.iface tF (.agg #[.int .i64 e]),recovered:=true }]∧∃ o,w'=(w.alloc o).setCell p (.int .i64 e))
  (v:Int) (h:vc P T F G N r0 ⟨envOf args,[],[]⟩ (thenD P T F G N rest (FinC c tF v))):CT P G f args (Is (.g (.int v))):=by
 subst hN
 intro w V vals hV hG hargs
 have hlen:=hargs.len
 have hal:=Nat.le_of_ble_eq_true hal
 refine calls_of_wp_defers hf hb ?_
 have hnth:∀ (ds:List D) (vs:List Value),RepDL [] (fun _=>undef) V w ds vs→∀ i,RepD [] (fun _=>undef) V w (nth .any ds i) (vs.getD i undef):=by
  intro ds
  induction ds with
  | nil=>intro vs _ i;simp only[nth,RepD]
  | cons d ds ih =>
   intro vs h i
   simp only[RepDL] at h
   obtain ⟨v,us,rfl,h1,h2⟩:=h
   cases i with
   | zero=>simpa [nth] using h1
   | succ i=>simpa [nth] using ih us h2 i
 have hr:Rel ⟨w,fun _=>False,V,G⟩ fn.ntmps ⟨envOf args,[],[]⟩ { tmps:=(⟨vals⟩:Array Value)++Array.replicate (fn.ntmps - (⟨vals⟩:Array Value).size) undef,defers:=[] } w:=by
  refine ⟨by simp;omega,rfl,fun _=>undef,V,empty_rel hV hG,fun i=>?_⟩
  have h1:=hnth args vals hargs i
  have h2:((⟨vals⟩:Array Value)++Array.replicate (fn.ntmps - (⟨vals⟩:Array Value).size) undef).getD i undef=vals.getD i undef:=by
   rw[Array.getD_eq_getD_getElem?,List.getD_eq_getElem?_getD]
   by_cases hi:i < vals.length
   ·rw[Array.getElem?_append_left (by simpa using hi)]
    simp
   ·rw[Array.getElem?_append_right (by simp;omega),List.getElem?_eq_none (by omega)]
    rw[Array.getElem?_replicate]
    split<;>rfl
  rw[h2]
  exact h1
 have hlt0:=allLt_mem hs0
 have hlt1:=allLt_mem hs1
 refine wp_seq (Code.wp_mono ?_ (vc_sound hT hF hM.ok r0 (mods r0) hlt0 (fun k hk=>inL_iff.2 hk) ⟨w,fun _=>False,V,G⟩ _ _ w _ h hr))
 rintro e a1 w1 ⟨_,x,st1,hq,hx⟩
 cases x with
 | exit _=>exact hq.elim
 | ret=>exact hq.elim
 | pan _=>exact hq.elim
 | normal =>
 cases e<;>try exact hx.elim
 obtain ⟨hsz,hdf,β1,V1,hrel1,he1⟩:=hx
 obtain ⟨env1,h1,df1⟩:=st1
 obtain ⟨rfl,hq⟩:=hq
 refine wp_seq (hrd _ a1 w1 ?_)
 have hx1:Rel ⟨w,fun _=>False,V,G⟩ fn.ntmps ⟨env1,h1,[{ target:=.fn (.func g) #[],args:=#[a1.tmps.getD c undef] }]⟩ { a1 with defers:={ target:=.fn (.func g) #[],args:=#[a1.tmps.getD c undef] } :: a1.defers } w1 :=
  ⟨hsz,by rw[hdf],β1,V1,hrel1,he1⟩
 refine Code.wp_mono ?_ (vc_sound hT hF hM.ok rest (mods rest) hlt1 (fun k hk=>inL_iff.2 hk) ⟨w,fun _=>False,V,G⟩ _ _ w1 _ (hq _) hx1)
 rintro e a2 w2 ⟨hk2,x,⟨env2,h2,df2⟩,hq2,hx2⟩
 have hc2:a2.tmps.getD c undef=a1.tmps.getD c undef:=hk2 c hc
 have ptr:∀ {β2:Nat→Value} {V2:Nat→Prop} {j:Nat} {y:Int} {t:TypeId},RelD ⟨w,fun _=>False,V,G⟩ h2 β2 V2 w2→EnvOk ⟨env2,h2,df2⟩ β2 V2 w2 a2→env2 c=.ptr j 0→h2[j]?=some (.blk [.g (.int y)] t)→∃ g',β2 j=.pointer (some ⟨g',0,none⟩)∧a1.tmps.getD c undef=.pointer (some ⟨g',0,none⟩):=by
  intro β2 V2 j y t hrel he hj hh
  have hp:=he c
  rw[show (⟨env2,h2,df2⟩:St).env c=env2 c from rfl,hj,hc2] at hp
  simp only[RepD,hh] at hp
  obtain ⟨g',hb',hv⟩:=hp
  exact ⟨g',hb',hv⟩
 have fin:∀ {w3:World} {β3:Nat→Value} {V3:Nat→Prop} {h3:Heap} {env3:Env} {j:Nat} {t:TypeId},RelD ⟨w,fun _=>False,V,G⟩ h3 β3 V3 w3→EnvOk ⟨env3,h3,[]⟩ β3 V3 w3 a2→env3 c=.ptr j 0→h3[j]?=some (.blk [.g (.int v)] t) →
   Leaves P fn a2.tmps (PostC G (Is (.g (.int v))) V w) [] .returning w3:=by
  intro w3 β3 V3 h3 env3 j t hrel he hj hh
  have hres:resD T ⟨env3,h3,[]⟩ fn.results.toList=some [.g (.int v)]:=by
   rw[hrs]
   simp only[resD,hj,hti,hh,hagg]
   rfl
  obtain ⟨v',hv1,hv2⟩:=run_resultsD' hT hrel he hres
  obtain ⟨src,d',h',ht,hQ⟩:=(retIs (.inl rfl):RetTo (Is (.g (.int v))) h3 (.g (.int v)))
  obtain ⟨r1,r2⟩:=ht.use hrel hv2
  simp only[RepDL] at r2
  obtain ⟨v'',us,e,r3,_⟩:=r2
  injection e with e1 e2
  subst e1
  exact ⟨v',hv1,d',h',_,_,hQ,r1,r3⟩
 have ret:∀ {st2:St},st2=⟨env2,h2,df2⟩→Rel ⟨w,fun _=>False,V,G⟩ fn.ntmps st2 a2 w2→(df2=[{ target:=.fn (.func g) #[],args:=#[a1.tmps.getD c undef] }]∧∃ j t,env2 c=.ptr j 0∧h2[j]?=some (.blk [.g (.int v)] t))→Leaves P fn a2.tmps (PostC G (Is (.g (.int v))) V w) a2.defers .returning w2:=by
  rintro _ rfl ⟨_,hdf2,β2,V2,hrel2,he2⟩ ⟨hd2,j,t,hj,hh⟩
  obtain ⟨g',hb',hp⟩:=ptr hrel2 he2 hj hh
  rw[hdf2]
  show Leaves P fn a2.tmps _ df2 .returning w2
  rw[hd2,hp]
  refine leaves_cons (by simp) (hinv _ _) ((idle _ w2).mono ?_)
  rintro e u' w' ⟨rfl,rfl,rfl⟩
  exact fin (env3:=env2) hrel2 he2 hj hh
 cases x with
 | exit _=>exact hq2.elim
 | normal=>cases e<;>first | exact hx2.elim | exact ret rfl hx2 hq2
 | ret=>cases e<;>first | exact hx2.elim | exact ret rfl hx2 hq2
 | pan d =>
  cases e<;>try exact hx2.elim
  obtain ⟨t,u,rfl,_,hdf2,β2,V2,hrel2,he2,hd⟩:=hx2
  obtain ⟨hd2,rfl,j,y,t',hj,hh⟩:=hq2
  obtain ⟨g',hb',hp⟩:=ptr hrel2 he2 hj hh
  simp only[RepD] at hd
  obtain ⟨u',e1,us,rfl,hus⟩:=hd
  injection e1 with e1 e2
  subst e1;subst e2
  simp only[RepDL,RepD,RepV] at hus
  obtain ⟨v',us',rfl,rfl,rfl⟩:=hus
  show Leaves P fn a2.tmps _ a2.defers (.panicking _) w2
  rw[hdf2]
  show Leaves P fn a2.tmps _ df2 (.panicking _) w2
  rw[hd2,hp]
  obtain ⟨c1,c2,_⟩:=cell_rel hrel2 hh hb' (Go.Obj.cells #[] 0 (0,0)) v
  refine leaves_cons (by simp) (hinv _ _) ((caught _ y v w2 c1 c2).mono ?_)
  rintro e u' w' ⟨rfl,rfl,o,rfl⟩
  obtain ⟨_,_,r3⟩:=cell_rel hrel2 hh hb' o v
  refine fin (env3:=fun k=>bif Nat.beq k c then .ptr 0 0 else .any) (j:=0) r3 (fun k=>?_) (by simp) rfl
  show RepD _ _ _ _ (bif Nat.beq k c then .ptr 0 0 else .any) _
  cases hk:Nat.beq k c with
  | false=>simp only[cond_false,RepD]
  | true =>
   have:=Nat.eq_of_beq_eq_true hk
   subst this
   simp only[cond_true,RepD]
   exact ⟨g',rfl,hc2.trans hp⟩
end
end Go.Dm
/-
  tree.Check: the contract.
-/
namespace Go.Proofs.YtjkplhnbiejefaaDoor
open Go Go.Dm Go.Eng Barb

theorem panC {e v:Int} (h:e=v):panV e=.iface 68 (.agg [.g (.int v)]):=by rw[← h];rfl
theorem blkC {a v:Int} {t:TypeId} {o:Option Go.Dm.Obj} (h:a=v) (ho:o=some (.blk [.g (.int a)] t)):o=some (.blk [.g (.int v)] t):=by rw[← h];exact ho

set_option maxHeartbeats 1000000 in
theorem TreeCheck_any (u:Barb.Unit) (hu:u.I):CT Tryd.prog gl 8 [.agg u.d] (Is (.g (.int (unitE u)))):=by
 obtain ⟨hn,⟨hvs,hvl⟩,hai,hal,hfi,hfl⟩:=hu
 have lv:(u.vars.map strG).length=u.vars.length:=by simp
 have la:(u.arrays.map Arr.g).length=u.arrays.length:=by simp
 have lf:(u.funcs.map Fun.g).length=u.funcs.length:=by simp
 have e:unitE u=unitE u:=rfl
 conv at e=>rhs;unfold unitE
 refine enterD hT hF hM Tryd.func8 rfl 101 rfl (by kernel_rfl) (by kernel_rfl) 2 25 rfl (by kernel_rfl) rfl rfl [.agg u.d] rfl 68 14 (fun Q a w hq=>?_) (fun x w=>?_) caught_idle caught_panicking (unitE u) ?_
 ·apply wp_region
  simp[wpOps,go_sem]
  exact .inl (by simpa using hq)
 ·simp[go_sem]
 refine ⟨rfl,fun d=>?_⟩
 refine stepS ?_
 refine callIs (.inl rfl) (Ident_any u.name hn) (callNeed (p:=identP u.name) (by decide) (lkP Iff.rfl) (fun h1=>⟨?_⟩) (fun h1=>⟨rfl,panC (by rw[e,if_pos h1]),_,_,_,rfl,rfl⟩))
 rw[if_neg (Classical.not_not.2 h1)] at e
 refine seqJ (ι:=PUnit) (fun _=>[(1,.ptr 0 0),(2,.ptr 1 0)]) (fun _=>[.blk u.d 41,.blk [.g (.int 0)] 25]) (fun _=>¬(8 < u.vars.length∨3 < u.arrays.length∨8 < u.funcs.length)) (fun e0 _ h2=>?_) (fun Rj hRj=>?_)
 rotate_left
 ·refine ⟨fun a1=>⟨fun a2=>?_,fun a2=>?_⟩,fun a1=>?_⟩
  ·exact callNeed (p:=¬(8 < u.vars.length∨3 < u.arrays.length∨8 < u.funcs.length)) (by decide) (lkP (by omega)) (fun h=>hRj ⟨⟩ _ ⟨rfl,rfl,trivial⟩ h) (fun h=>⟨rfl,panC (by rw[e,if_pos (Classical.not_not.1 h)]),_,_,_,rfl,rfl⟩)
  ·have hb:8 < u.vars.length∨3 < u.arrays.length∨8 < u.funcs.length:=by omega
   exact callNeed (p:=¬(8 < u.vars.length∨3 < u.arrays.length∨8 < u.funcs.length)) (by decide) (lkBP ⟨fun h=>(by cases h),fun h=>absurd hb h⟩) (fun h=>absurd hb h) (fun h=>⟨rfl,panC (by rw[e,if_pos hb]),_,_,_,rfl,rfl⟩)
  ·have hb:8 < u.vars.length∨3 < u.arrays.length∨8 < u.funcs.length:=by omega
   exact callNeed (p:=¬(8 < u.vars.length∨3 < u.arrays.length∨8 < u.funcs.length)) (by decide) (lkBP ⟨fun h=>(by cases h),fun h=>absurd hb h⟩) (fun h=>absurd hb h) (fun h=>⟨rfl,panC (by rw[e,if_pos hb]),_,_,_,rfl,rfl⟩)
 rw[if_neg h2] at e
 refine loopR (ι:=Nat) (fun i=>[(36,.g (.int (i:Int))),(1,.ptr 0 0),(2,.ptr 1 0)]) (fun _=>[.blk u.d 41,.blk [.g (.int 0)] 25]) (fun i=>i≤u.vars.length∧∀ j (hj:j < u.vars.length),j < i→nameE u.vars[j]=0) (fun i=>u.vars.length - i)
  ⟨0,[.old 0,.old 1],⟨rfl,.inl rfl,.inr ⟨lk rfl,lk rfl,lk rfl,trivial⟩,rfl⟩,Nat.zero_le _,none0⟩ ?_
 intro Rd hRd i ⟨hi,ha⟩
 refine ⟨fun b0=>?_,fun b0=>?_⟩
 ·have b1:i < u.vars.length:=by omega
  refine ⟨i,_,rfl,gm b1,?_⟩
  refine callIs (.inl rfl) (Ident_any u.vars[i] (hvs _ (List.getElem_mem _))) (callNeed (p:=identP u.vars[i]) (by decide) (lkP Iff.rfl) (fun b2=>⟨_,I64.wrap (by unfold I64;omega),?_⟩) (fun b2=>⟨rfl,panC ?_,_,_,_,rfl,rfl⟩))
  ·exact hRd _ _ _ ⟨i+1,[.old 0,.old 1],⟨rfl,.inl rfl,.inr ⟨lk rfl,lk rfl,lk rfl,trivial⟩,rfl⟩,⟨b1,firstE_step b1 ha (nameE_ok b2)⟩,by omega⟩
  ·have hz:=nameE_no b2
   rw[e,firstE_at b1 ha (by rw[hz];decide),hz,if_pos (by decide)]
 have hv0:firstE nameE u.vars=0:=firstE_end (by omega) ha
 rw[if_neg (fun h=>h hv0)] at e
 clear hRd ha hi b0
 refine loopR (ι:=Nat) (fun i=>[(47,.g (.int (i:Int))),(1,.ptr 0 0),(2,.ptr 1 0)]) (fun _=>[.blk u.d 41,.blk [.g (.int 0)] 25]) (fun i=>i≤u.arrays.length∧∀ j (hj:j < u.arrays.length),j < i→arrE u.arrays[j]=0) (fun i=>u.arrays.length - i)
  ⟨0,[.old 0,.old 1],⟨rfl,.inl rfl,.inr ⟨lk rfl,lk rfl,lk rfl,trivial⟩,rfl⟩,Nat.zero_le _,none0⟩ ?_
 intro Rd hRd i ⟨hi,ha⟩
 refine ⟨fun b0=>?_,fun b0=>?_⟩
 ·have b1:i < u.arrays.length:=by omega
  have bI:=hai _ (List.getElem_mem b1)
  refine ⟨i,_,rfl,gm b1,?_⟩
  have hz:∀ v:Int,v≠0→arrE u.arrays[i]=v→unitE u=v:=fun v h0 h=>by rw[e,firstE_at b1 ha (by rw[h];exact h0),h,if_pos h0]
  refine callIs (.inl rfl) (Ident_any u.arrays[i].name bI.1) (callNeed (p:=identP u.arrays[i].name) (by decide) (lkP Iff.rfl) (fun b2=>?_) (fun b2=>⟨rfl,panC (hz 4 (by decide) (by unfold arrE;rw[if_pos b2])).symm,_,_,_,rfl,rfl⟩))
  refine ⟨fun a1=>?_,fun a1=>?_⟩
  ·refine callNeed (p:=1≤u.arrays[i].size∧u.arrays[i].size≤10) (by decide) (lkP ⟨fun h=>⟨a1,h⟩,fun h=>h.2⟩) (fun b3=>⟨_,I64.wrap (by unfold I64;omega),?_⟩) (fun b3=>⟨rfl,panC (hz 2 (by decide) (by unfold arrE;rw[if_neg (Classical.not_not.2 b2),if_pos b3])).symm,_,_,_,rfl,rfl⟩)
   exact hRd _ _ _ ⟨i+1,[.old 0,.old 1],⟨rfl,.inl rfl,.inr ⟨lk rfl,lk rfl,lk rfl,trivial⟩,rfl⟩,⟨b1,firstE_step b1 ha (by unfold arrE;rw[if_neg (Classical.not_not.2 b2),if_neg (Classical.not_not.2 b3)])⟩,by omega⟩
  ·exact callNeed (p:=1≤u.arrays[i].size∧u.arrays[i].size≤10) (by decide) (lkBP ⟨fun h=>(by cases h),fun h=>absurd h.1 a1⟩) (fun b3=>absurd b3.1 a1) (fun b3=>⟨rfl,panC (hz 2 (by decide) (by unfold arrE;rw[if_neg (Classical.not_not.2 b2),if_pos b3])).symm,_,_,_,rfl,rfl⟩)
 have ha0:firstE arrE u.arrays=0:=firstE_end (by omega) ha
 rw[if_neg (fun h=>h ha0)] at e
 clear hRd ha hi b0
 refine loopR (ι:=Nat) (fun i=>[(68,.g (.int (i:Int))),(7,.g (.int (IntKind.i64.wrap (manyN (u.funcs.take i))))),(1,.ptr 0 0),(2,.ptr 1 0)]) (fun _=>[.blk u.d 41,.blk [.g (.int 0)] 25]) (fun i=>i≤u.funcs.length∧∀ j (hj:j < u.funcs.length),j < i→funE u.funcs[j]=0) (fun i=>u.funcs.length - i)
  ⟨0,[.old 0,.old 1],⟨rfl,.inl rfl,.inr ⟨lk rfl,lkI rfl,lk rfl,lk rfl,trivial⟩,rfl⟩,Nat.zero_le _,none0⟩ ?_
 intro Rd hRd i ⟨hi,ha⟩
 refine ⟨fun b0=>?_,fun b0=>?_⟩
 rotate_left
 ·have hf0:firstE funE u.funcs=0:=firstE_end (by omega) ha
  rw[if_neg (fun h=>h hf0)] at e
  have hiE:i=u.funcs.length:=by omega
  rw[← List.take_length (l:=u.funcs),← hiE] at e
  refine callNeed (p:=¬300 < IntKind.i64.wrap (manyN (u.funcs.take i))) (by decide) (lkP (by omega)) (fun c=>?_) (fun c=>⟨rfl,panC (by rw[e,if_pos (Classical.not_not.1 c)]),_,_,_,rfl,rfl⟩)
  exact ⟨rfl,_,_,rfl,blkC (a:=0) (v:=unitE u) (by rw[e,if_neg c]) rfl⟩
 have b1:i < u.funcs.length:=by omega
 obtain ⟨fn,⟨fps,fpl⟩,fbl,fbI⟩:=hfi _ (List.getElem_mem b1)
 have hz:∀ v:Int,v≠0→funE u.funcs[i]=v→unitE u=v:=fun v h0 h=>by rw[e,firstE_at b1 ha (by rw[h];exact h0),h,if_pos h0]
 have next:funE u.funcs[i]=0→∀ j (hj:j < u.funcs.length),j < i+1→funE u.funcs[j]=0:=fun h0=>firstE_step b1 ha h0
 have hsucc:=manyN_succ b1
 have ef:funE u.funcs[i]=funE u.funcs[i]:=rfl
 conv at ef=>rhs;unfold funE
 refine ⟨i,_,rfl,(gm b1).trans (congrArg some (Fun.g_eq _)),?_⟩
 generalize u.funcs[i]=f at *
 have lp:(f.params.map strG).length=f.params.length:=by simp
 refine callIs (.inl rfl) (Ident_any f.name fn) (callNeed (p:=identP f.name) (by decide) (lkP Iff.rfl) (fun b2=>?_) (fun b2=>⟨rfl,panC (hz 4 (by decide) (by rw[ef,if_pos b2])).symm,_,_,_,rfl,rfl⟩))
 rw[if_neg (Classical.not_not.2 b2)] at ef
 refine callNeed (p:=¬4 < f.params.length) (by decide) (lkP (by omega)) (fun b3=>?_) (fun b3=>⟨rfl,panC (hz 1 (by decide) (by rw[ef,if_pos (Classical.not_not.1 b3)])).symm,_,_,_,rfl,rfl⟩)
 rw[if_neg b3] at ef
 refine loopR (ι:=Nat) (fun k=>[(84,.g (.int (k:Int))),(9,.ptr 2 0),(1,.ptr 0 0),(2,.ptr 1 0)]) (fun _=>[.blk u.d 41,.blk [.g (.int 0)] 25,.blk f.d 37]) (fun k=>k≤f.params.length∧∀ j (hj:j < f.params.length),j < k→nameE f.params[j]=0) (fun k=>f.params.length - k)
  ⟨0,[.old 0,.old 1,.old 2],⟨rfl,.inl rfl,.inr ⟨lk rfl,lk rfl,lk rfl,lk rfl,trivial⟩,rfl⟩,Nat.zero_le _,none0⟩ ?_
 intro Rk hRk k ⟨hk,hak⟩
 refine ⟨fun c0=>?_,fun c0=>?_⟩
 ·have c1:k < f.params.length:=by omega
  refine ⟨k,_,rfl,gm c1,?_⟩
  refine callIs (.inl rfl) (Ident_any f.params[k] (fps _ (List.getElem_mem _))) (callNeed (p:=identP f.params[k]) (by decide) (lkP Iff.rfl) (fun c2=>⟨_,I64.wrap (by unfold I64;omega),?_⟩) (fun c2=>⟨rfl,panC (hz 4 (by decide) ?_).symm,_,_,_,rfl,rfl⟩))
  ·exact hRk _ _ _ ⟨k+1,[.old 0,.old 1,.old 2],⟨rfl,.inl rfl,.inr ⟨lk rfl,lk rfl,lk rfl,lk rfl,trivial⟩,rfl⟩,⟨c1,firstE_step c1 hak (nameE_ok c2)⟩,by omega⟩
  ·have hz4:=nameE_no c2
   rw[ef,firstE_at c1 hak (by rw[hz4];decide),hz4,if_pos (by decide)]
 have hp0:firstE nameE f.params=0:=firstE_end (by omega) hak
 rw[if_neg (fun h=>h hp0)] at ef
 refine callRP (.inl rfl) (tstmts_any 12 f.body fbI fbl 1 (by decide) (by decide)) (fun d0=>?_) (fun d0=>⟨rfl,panC (hz _ d0 ef).symm,_,_,_,rfl,rfl⟩)
 refine ⟨_,rfl,_,I64.wrap (by unfold I64;omega),?_⟩
 exact hRd _ _ _ ⟨i+1,[.old 0,.old 1],⟨rfl,.inl rfl,.inr ⟨lk rfl,lkI (by rw[wrap_add,wrap_add',hsucc]),lk rfl,lk rfl,trivial⟩,rfl⟩,⟨b1,next (ef.trans d0)⟩,by omega⟩
end Go.Proofs.YtjkplhnbiejefaaDoor
