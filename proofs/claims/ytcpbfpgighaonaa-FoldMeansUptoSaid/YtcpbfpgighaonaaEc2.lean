/-
  eval.Call: what it answers.
-/
import Derived.Test.YtcpbfpgighaonaaEr
import Derived.Test.YtcpbfpgighaonaaEm
import Derived.Test.YtcpbfpgighaonaaEo
namespace Go.Proofs.Ytcpbfpgighaonaa
open Go Go.Dm Go.Eng Go.RowKit Barb
set_option maxRecDepth 20000 in
theorem expr_zero {p:List Barb.Unit} {N:List CN} {R:Value}:EvalC p N R 0:=by
 intro c el s x hs hc he hx hxI
 have h0:s.fuel=0:=by have:=hs.fuel;omega
 rw[expr_none p _ c _ x s h0]
 refine enterHJ [] hT hF hM Try.func87 rfl 114 rfl (by kernel_rfl) [.tmp 4] rfl [.ptr 0 0,.agg x.d] rfl (XH p N R s c el) [0] rfl rfl rfl 2 [some R,none] tgX _ ?_
 refine callBurn [.blk x.d 98] (by omega) rfl rfl (fun h0=>?_) (fun h1=>absurd h0 h1)
 exact ⟨rfl,.inl (endXH (s':=s) (el':=el) (stopD 3) [.old 0,.old 1,.old 2,.old 3,.old 6] rfl rfl rfl (.inl rfl) rfl rfl rfl (List.Perm.refl _) rfl)⟩
set_option maxRecDepth 20000 in
theorem stmt_zero {p:List Barb.Unit} {N:List CN} {R:Value}:StmtC p N R 0:=by
 intro c el s x hs hc he hx hxI
 have h0:s.fuel=0:=by have:=hs.fuel;omega
 rw[stmt_none p _ c x _ s h0]
 refine enterHJ [] hT hF hM Try.func74 rfl 121 rfl (by kernel_rfl) [] rfl [.ptr 0 0,.agg x.d] rfl (XH p N R s c el) [0] rfl rfl rfl 2 [some R,none] tgX _ ?_
 refine callBurn [.blk x.d 96] (by omega) rfl rfl (fun h0=>?_) (fun h1=>absurd h0 h1)
 exact ⟨rfl,.inl (endXH (s':=s) (el':=el) (stopD 3) [.old 0,.old 1,.old 2,.old 3,.old 6] rfl rfl rfl (.inl rfl) rfl rfl rfl (List.Perm.refl _) ⟨el,rfl⟩)⟩
theorem all_any {p:List Barb.Unit} (hp:PI p) (hpI:progI p) (N:List CN) (R:Value):∀ g,EvalC p N R g∧StmtC p N R g
 | 0=>⟨expr_zero,stmt_zero⟩
 | g+1=>by
  obtain ⟨h1,h2⟩:=all_any hp hpI N R g
  have h3:=stmts_any2 hp h2
  exact ⟨expr_any hp h1 (call_any hp hpI h3),stmt_any hp h1 h3⟩
theorem run_fn2:fnOk Try.prog 18=true:=by kernel_rfl
noncomputable def callR (p:List Barb.Unit) (cs:List Cells) (u i:Nat) (args:List Int) (deep fuel:Nat):RR Int:=callF p (evS p fuel) u i args deep ⟨fuel,[],cs⟩
def ansD (e v:Int) (s:ES):D:=.tuple [.agg [.g (.int e),.g (.int v),.g (.sl 1 (s.told.map intG)),.g (.sl 1 []),.g (.sl 7 [])],.g (.sl 2 (s.cells.map Cells.g)),.g (.int 0)]
def callD:RR Int→D
 | .ok n s=>ansD 1 n s
 | .stop e s=>ansD e 0 s
set_option maxRecDepth 20000 in
theorem Call_any (p:List Barb.Unit) (hpI:progI p) (cs:List Cells) (hI:∀ c∈cs,Cells.I c) (hl:cs.length*48≤140737488351232) (hc:cellsE p cs=0) (un fn:Str) (u i:Nat) (hu:u < p.length) (hun:unitIdx p un=(u:Int)) (hi:i < (uAt p u).funcs.length) (hfn:funIdx (uAt p u) fn=(i:Int))
  (args:List Int) (ha:args.length=((uAt p u).funcs.getD i noF).params.length) (hw:wds args) (deep fuel:Nat) (hd:deep≤19) (hf:fuel≤100000) :
  CT Try.prog [] 6 [.g (.sl 4 (p.map Unit.g)),.g (.sl 2 (cs.map Cells.g)),.g (.str un),.g (.str fn),.g (.sl 1 (args.map intG)),.g (.int (deep:Int)),.g (.int (fuel:Int))] (Is (callD (callR p cs u i args deep fuel))):=by
 obtain ⟨hpe,hlen,hcok⟩:=cellsE_ok hc
 have hp:=PI.of hpe
 have hal4:args.length≤4:=by rw[ha];exact (funE_inv ((unitE_inv (hp.unit _ (uAt_mem hu))).2.2.2.2.2.2 _ (fn_mem hi))).2.1
 have hcs:=CheckStores_any p hpI cs hI hl
 rw[hc] at hcs
 have hU:=NamesUnit_any p (by have:=hp.few;omega) un
 rw[hun] at hU
 have hFn:=NamesFunc_any (uAt p u) (by have:=(unitE_inv (hp.unit _ (uAt_mem hu))).2.2.2.1;omega) fn
 rw[hfn] at hFn
 have hgm:(p.map Unit.g)[u]?=some [.str (uAt p u).name,.sl 1 ((uAt p u).vars.map strG),.sl 2 ((uAt p u).arrays.map Arr.g),.sl 4 ((uAt p u).funcs.map Fun.g)]:=by rw[uAt_eq hu];exact gm hu
 suffices H:∀ r,callR p cs u i args deep fuel=r→CT Try.prog [] 6 [.g (.sl 4 (p.map Unit.g)),.g (.sl 2 (cs.map Cells.g)),.g (.str un),.g (.str fn),.g (.sl 1 (args.map intG)),.g (.int (deep:Int)),.g (.int (fuel:Int))] (Is (callD r)) from H _ rfl
 intro r hr
 refine enterJ [13,14] hT hF hM Try.func6 rfl 110 rfl (by kernel_rfl) [.cell 14 28,.tmp 15,.tmp 16] rfl [.g (.sl 4 (p.map Unit.g)),.g (.sl 2 (cs.map Cells.g)),.g (.str un),.g (.str fn),.g (.sl 1 (args.map intG)),.g (.int (deep:Int)),.g (.int (fuel:Int))] rfl _ ?_
 refine callIs (.inl rfl) hcs ?_
 refine ⟨fun h=>absurd rfl h,fun _=>?_⟩
 refine callIs (.inl rfl) hU ?_
 refine ⟨fun h=>absurd h (by omega),fun h=>?_⟩
 refine ⟨u,_,rfl,hgm,?_⟩
 have hfg:((uAt p u).funcs.map Fun.g)[i]?=some [.str (uAt p u).funcs[i].name,.bool (uAt p u).funcs[i].isOpen,.sl 1 ((uAt p u).funcs[i].params.map strG),.sl 5 ((uAt p u).funcs[i].body.map Stmt.g)]:=fnG hi
 have hpl:((uAt p u).funcs[i].params.map strG).length=args.length:=by rw[List.length_map,ha];simp[hi]
 have hal:(args.map intG).length=args.length:=List.length_map _
 refine callIs (.inl rfl) hFn ?_
 refine ⟨fun h=>absurd h (by omega),fun _=>?_⟩
 refine ⟨u,_,rfl,hgm,?_⟩
 refine callIs (.inl rfl) hFn ?_
 refine ⟨u,_,rfl,hgm,?_⟩
 refine ⟨i,_,rfl,hfg,?_⟩
 refine ⟨fun h=>absurd h (by omega),fun _=>?_⟩
 refine ⟨fun h=>absurd h (by omega),fun _=>?_⟩
 refine ⟨fun h=>absurd h (by omega),fun _=>?_⟩
 refine ⟨fun h=>absurd h (by omega),fun _=>?_⟩
 refine ⟨fun h=>absurd h (by omega),fun _=>?_⟩
 refine callIs (.inl rfl) (words_any args (by omega) _) ?_
 refine ⟨fun h=>absurd ⟨by omega,hw⟩ h,fun _=>?_⟩
 have noI:∀ (l:List Int),∀ r∈l.map intG,∀ g∈r,noV g:=fun l r hr g hg=>by
  obtain ⟨x,_,rfl⟩:=List.mem_map.1 hr
  rcases List.mem_singleton.1 hg with rfl
  trivial
 refine callQ (.inl rfl) (CopyOwn_any cs hI hl) (fun d h' hq=>?_) (fun d hq=>?_)
 rotate_left
 ·obtain ⟨N,_,hq⟩:=hq;cases hq
 obtain ⟨N,hN,hq⟩:=hq
 injection hq with q1 q2;subst q1;subst q2
 refine .inl ?_
 have hs:OkS p N fuel ⟨fuel,[],cs⟩:=⟨⟨hlen,hcok,Nat.zero_le _,fun _ h=>by simp at h⟩,⟨hN.len.trans hlen,fun j h1 h2=>by
  have h3:j < cs.length:=by omega
  rw[hN.ar j h1 h3];exact (hcok j h3 h2).1.2⟩,Nat.le_refl _,by omega⟩
 refine turnTo [.old 3,.old 2,.nil 3 1,.old 0] [(14,.ptr 3 0),(20,.ptr 0 0)] [.blk (rC p N 2 fuel) 57,.many (mz N ⟨fuel,[],cs⟩) [],.row (tz ⟨fuel,[],cs⟩) 3 1,.blk [.g (.int 0),.g (.int 0),.nils,.nils,.nils] 28]
  ⟨rfl,.inr ⟨⟨rfl,.inr ⟨lk rfl,lk rfl,.inr rfl,lk rfl,trivial⟩⟩,⟨List.Perm.refl _,rfl⟩,⟨rfl,rfl,rfl⟩,⟨rfl,.inl rfl⟩,trivial⟩,.inl rfl,rfl⟩ ?_
 refine .inr (semRow (.inl rfl) (Clone_any (args.map intG) (by omega)) (noI _) ?_)
 refine callO [0,1,2,4] run_fn2 rfl rfl ⟨rfl,.inl rfl,.inl rfl,rfl⟩ (run_any2 (fun R=>call_any hp hpI (stmts_any2 hp (all_any hp hpI N R fuel).2)) u i args deep ⟨fuel,[],cs⟩ hs hu hi ha hw (by omega)) (fun d' h' hq=>?_) (fun d' h' hq=>?_)
 rotate_left
 ·change rQ p N (callR p cs u i args deep fuel) _ at hq
  rw[hr] at hq
  cases r<;>cases hq
 change rQ p N (callR p cs u i args deep fuel) _ at hq
 rw[hr] at hq
 have hI2:=callF_I hp (evP_I hp fuel).2 hu hi ha hw deep hs.si
 rw[show callF p (evS p fuel) u i args deep ⟨fuel,[],cs⟩=r from hr] at hI2
 cases r with
 | ok n s' =>
  injection hq with q1 q2;subst q1;subst q2
  refine .inl ?_
  refine turnMelt (m:=1) (j:=0) (off:=1) rfl rfl rfl (hs.np.ni hI2.1) (turnNo ?_)
  refine ⟨some 60001,(.lead 0 (.lead 2 (.lead 4 (.lead 7 (.lead 8 (.lead 9 (.two (.run 1 (.two (.run 3 (.two (.run 5 (.two (.run 6 (.two (.run 10 (.run 11 (.lead 12 (.lead 13 .done)))) (.run 11 (.run 10 (.lead 12 (.lead 13 .done)))))) (.run 10 (.run 6 (.run 11 (.lead 12 (.lead 13 .done))))))) (.run 10 (.run 5 (.run 6 (.run 11 (.lead 12 (.lead 13 .done)))))))) (.two (.run 5 (.two (.run 3 (.two (.run 6 (.two (.run 10 (.run 11 (.lead 12 (.lead 13 .done)))) (.run 11 (.run 10 (.lead 12 (.lead 13 .done)))))) (.run 10 (.run 6 (.run 11 (.lead 12 (.lead 13 .done))))))) (.run 10 (.run 3 (.run 6 (.run 11 (.lead 12 (.lead 13 .done)))))))) (.run 10 (.two (.run 3 (.run 5 (.run 6 (.run 11 (.lead 12 (.lead 13 .done)))))) (.run 5 (.run 3 (.run 6 (.run 11 (.lead 12 (.lead 13 .done))))))))))) (.two (.run 3 (.two (.run 1 (.two (.run 5 (.two (.run 6 (.two (.run 10 (.run 11 (.lead 12 (.lead 13 .done)))) (.run 11 (.run 10 (.lead 12 (.lead 13 .done)))))) (.run 10 (.run 6 (.run 11 (.lead 12 (.lead 13 .done))))))) (.run 10 (.run 5 (.run 6 (.run 11 (.lead 12 (.lead 13 .done)))))))) (.two (.run 5 (.two (.run 1 (.two (.run 6 (.two (.run 10 (.run 11 (.lead 12 (.lead 13 .done)))) (.run 11 (.run 10 (.lead 12 (.lead 13 .done)))))) (.run 10 (.run 6 (.run 11 (.lead 12 (.lead 13 .done))))))) (.run 10 (.run 1 (.run 6 (.run 11 (.lead 12 (.lead 13 .done)))))))) (.run 10 (.two (.run 1 (.run 5 (.run 6 (.run 11 (.lead 12 (.lead 13 .done)))))) (.run 5 (.run 1 (.run 6 (.run 11 (.lead 12 (.lead 13 .done))))))))))) (.two (.run 5 (.two (.run 1 (.two (.run 3 (.two (.run 6 (.two (.run 10 (.run 11 (.lead 12 (.lead 13 .done)))) (.run 11 (.run 10 (.lead 12 (.lead 13 .done)))))) (.run 10 (.run 6 (.run 11 (.lead 12 (.lead 13 .done))))))) (.run 10 (.run 3 (.run 6 (.run 11 (.lead 12 (.lead 13 .done)))))))) (.two (.run 3 (.two (.run 1 (.two (.run 6 (.two (.run 10 (.run 11 (.lead 12 (.lead 13 .done)))) (.run 11 (.run 10 (.lead 12 (.lead 13 .done)))))) (.run 10 (.run 6 (.run 11 (.lead 12 (.lead 13 .done))))))) (.run 10 (.run 1 (.run 6 (.run 11 (.lead 12 (.lead 13 .done)))))))) (.run 10 (.two (.run 1 (.run 3 (.run 6 (.run 11 (.lead 12 (.lead 13 .done)))))) (.run 3 (.run 1 (.run 6 (.run 11 (.lead 12 (.lead 13 .done))))))))))) (.run 10 (.two (.run 1 (.two (.run 3 (.run 5 (.run 6 (.run 11 (.lead 12 (.lead 13 .done)))))) (.run 5 (.run 3 (.run 6 (.run 11 (.lead 12 (.lead 13 .done)))))))) (.two (.run 3 (.two (.run 1 (.run 5 (.run 6 (.run 11 (.lead 12 (.lead 13 .done)))))) (.run 5 (.run 1 (.run 6 (.run 11 (.lead 12 (.lead 13 .done)))))))) (.run 5 (.two (.run 1 (.run 3 (.run 6 (.run 11 (.lead 12 (.lead 13 .done)))))) (.run 3 (.run 1 (.run 6 (.run 11 (.lead 12 (.lead 13 .done)))))))))))))))))))),rfl,?_⟩
  refine ⟨⟨⟨⟨⟨?_,?_⟩,?_⟩,?_⟩,⟨⟨⟨⟨?_,?_⟩,?_⟩,?_⟩,⟨?_,?_⟩⟩⟩,⟨⟨⟨⟨⟨?_,?_⟩,?_⟩,?_⟩,⟨⟨⟨⟨?_,?_⟩,?_⟩,?_⟩,⟨?_,?_⟩⟩⟩,⟨⟨⟨⟨⟨?_,?_⟩,?_⟩,?_⟩,⟨⟨⟨⟨?_,?_⟩,?_⟩,?_⟩,⟨?_,?_⟩⟩⟩,⟨⟨?_,?_⟩,⟨⟨?_,?_⟩,⟨?_,?_⟩⟩⟩⟩⟩⟩
  all_goals exact ⟨rfl,retIs (.inr (.inr ⟨.inr ⟨lk rfl,lk rfl,lk rfl,.inr rfl,.inr rfl,trivial⟩,lk rfl,lk rfl,trivial⟩))⟩
 | stop e s' =>
  injection hq with q1 q2;subst q1;subst q2
  refine .inl ?_
  refine turnMelt (m:=1) (j:=0) (off:=1) rfl rfl rfl (hs.np.ni hI2.1) (turnNo ?_)
  refine ⟨some 60001,(.lead 0 (.lead 2 (.lead 4 (.lead 7 (.lead 8 (.lead 9 (.two (.run 1 (.two (.run 3 (.two (.run 5 (.two (.run 6 (.two (.run 10 (.run 11 (.lead 12 (.lead 13 .done)))) (.run 11 (.run 10 (.lead 12 (.lead 13 .done)))))) (.run 10 (.run 6 (.run 11 (.lead 12 (.lead 13 .done))))))) (.run 10 (.run 5 (.run 6 (.run 11 (.lead 12 (.lead 13 .done)))))))) (.two (.run 5 (.two (.run 3 (.two (.run 6 (.two (.run 10 (.run 11 (.lead 12 (.lead 13 .done)))) (.run 11 (.run 10 (.lead 12 (.lead 13 .done)))))) (.run 10 (.run 6 (.run 11 (.lead 12 (.lead 13 .done))))))) (.run 10 (.run 3 (.run 6 (.run 11 (.lead 12 (.lead 13 .done)))))))) (.run 10 (.two (.run 3 (.run 5 (.run 6 (.run 11 (.lead 12 (.lead 13 .done)))))) (.run 5 (.run 3 (.run 6 (.run 11 (.lead 12 (.lead 13 .done))))))))))) (.two (.run 3 (.two (.run 1 (.two (.run 5 (.two (.run 6 (.two (.run 10 (.run 11 (.lead 12 (.lead 13 .done)))) (.run 11 (.run 10 (.lead 12 (.lead 13 .done)))))) (.run 10 (.run 6 (.run 11 (.lead 12 (.lead 13 .done))))))) (.run 10 (.run 5 (.run 6 (.run 11 (.lead 12 (.lead 13 .done)))))))) (.two (.run 5 (.two (.run 1 (.two (.run 6 (.two (.run 10 (.run 11 (.lead 12 (.lead 13 .done)))) (.run 11 (.run 10 (.lead 12 (.lead 13 .done)))))) (.run 10 (.run 6 (.run 11 (.lead 12 (.lead 13 .done))))))) (.run 10 (.run 1 (.run 6 (.run 11 (.lead 12 (.lead 13 .done)))))))) (.run 10 (.two (.run 1 (.run 5 (.run 6 (.run 11 (.lead 12 (.lead 13 .done)))))) (.run 5 (.run 1 (.run 6 (.run 11 (.lead 12 (.lead 13 .done))))))))))) (.two (.run 5 (.two (.run 1 (.two (.run 3 (.two (.run 6 (.two (.run 10 (.run 11 (.lead 12 (.lead 13 .done)))) (.run 11 (.run 10 (.lead 12 (.lead 13 .done)))))) (.run 10 (.run 6 (.run 11 (.lead 12 (.lead 13 .done))))))) (.run 10 (.run 3 (.run 6 (.run 11 (.lead 12 (.lead 13 .done)))))))) (.two (.run 3 (.two (.run 1 (.two (.run 6 (.two (.run 10 (.run 11 (.lead 12 (.lead 13 .done)))) (.run 11 (.run 10 (.lead 12 (.lead 13 .done)))))) (.run 10 (.run 6 (.run 11 (.lead 12 (.lead 13 .done))))))) (.run 10 (.run 1 (.run 6 (.run 11 (.lead 12 (.lead 13 .done)))))))) (.run 10 (.two (.run 1 (.run 3 (.run 6 (.run 11 (.lead 12 (.lead 13 .done)))))) (.run 3 (.run 1 (.run 6 (.run 11 (.lead 12 (.lead 13 .done))))))))))) (.run 10 (.two (.run 1 (.two (.run 3 (.run 5 (.run 6 (.run 11 (.lead 12 (.lead 13 .done)))))) (.run 5 (.run 3 (.run 6 (.run 11 (.lead 12 (.lead 13 .done)))))))) (.two (.run 3 (.two (.run 1 (.run 5 (.run 6 (.run 11 (.lead 12 (.lead 13 .done)))))) (.run 5 (.run 1 (.run 6 (.run 11 (.lead 12 (.lead 13 .done)))))))) (.run 5 (.two (.run 1 (.run 3 (.run 6 (.run 11 (.lead 12 (.lead 13 .done)))))) (.run 3 (.run 1 (.run 6 (.run 11 (.lead 12 (.lead 13 .done)))))))))))))))))))),rfl,?_⟩
  refine ⟨⟨⟨⟨⟨?_,?_⟩,?_⟩,?_⟩,⟨⟨⟨⟨?_,?_⟩,?_⟩,?_⟩,⟨?_,?_⟩⟩⟩,⟨⟨⟨⟨⟨?_,?_⟩,?_⟩,?_⟩,⟨⟨⟨⟨?_,?_⟩,?_⟩,?_⟩,⟨?_,?_⟩⟩⟩,⟨⟨⟨⟨⟨?_,?_⟩,?_⟩,?_⟩,⟨⟨⟨⟨?_,?_⟩,?_⟩,?_⟩,⟨?_,?_⟩⟩⟩,⟨⟨?_,?_⟩,⟨⟨?_,?_⟩,⟨?_,?_⟩⟩⟩⟩⟩⟩
  all_goals exact ⟨rfl,retIs (.inr (.inr ⟨.inr ⟨lk rfl,lk rfl,lk rfl,.inr rfl,.inr rfl,trivial⟩,lk rfl,lk rfl,trivial⟩))⟩
end Go.Proofs.Ytcpbfpgighaonaa
