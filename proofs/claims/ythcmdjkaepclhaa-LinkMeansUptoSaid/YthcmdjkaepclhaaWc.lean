import Derived.Test.YthcmdjkaepclhaaWn
import Derived.Test.YthcmdjkaepclhaaEz
namespace Go.Dm
open Go Go.Eng Go.RowKit Barb
end Go.Dm
namespace Go.Proofs.Ythcmdjkaepclhaa
open Go Go.Dm Go.Eng Go.RowKit Barb
set_option maxRecDepth 20000 in
theorem CellsOwn_any (cs:List Cells) (hI:∀ c∈cs,Cells.I c) (hl:cs.length*48<=140737488351232):CT Try.prog [] 47 [.g (.sl 2 (cs.map Cells.g))]
  (fun out=>∃ N,NI N cs/\out=.ret (.row 0) [.row (N.map CN.g) 73 2,.many (manyZ 3 N cs) []]):=by
 have lc:(cs.map Cells.g).length=cs.length:=by simp
 have rm:∀ l:List Int,l.length*8<=140737488351232->(l.map intG).length<=maxLen/\(l.map intG).length*8<=140737488355328:=fun l h=>by rw[List.length_map];unfold maxLen;omega
 refine enterJ [] hT hF hM Try.func47 rfl 49 rfl (by kernel_rfl) [.tmp 2] rfl [.g (.sl 2 (cs.map Cells.g))] rfl _ ?_
 refine loopR (ι:=List CN) (fun N=>[(4,.g (.int (N.length:Int))),(3,.row 0)]) (fun N=>[.row (N.map CN.g) 73 2,.many (manyZ 3 N (cs.take N.length)) []]) (fun N=>N.length<=cs.length/\NI N (cs.take N.length)) (fun N=>cs.length - N.length)
  ⟨[],[.nil 73 2,.many0],⟨rfl,.inl rfl,.inr ⟨lk rfl,.inr rfl,trivial⟩,rfl⟩,Nat.zero_le _,⟨rfl,fun i h=>by simp at h⟩⟩ ?_
 rintro Rd hRd N ⟨hi,hN⟩
 have lN:(N.map CN.g).length=N.length:=List.length_map _
 refine ⟨fun h1=>?_,fun h1=>?_⟩
 rotate_left
 ·have hil:N.length=cs.length:=by omega
  rw[hil,List.take_length] at hN
  exact ⟨rfl,[.old 0,.old 1],.row 0,[.row (N.map CN.g) 73 2,.many (manyZ 3 N cs) []],⟨rfl,.inr ⟨⟨rfl,rfl,rfl⟩,⟨by rw[hil,List.take_length],rfl⟩,trivial⟩,.inl rfl,rfl⟩,N,hN,rfl⟩
 have h2:N.length < cs.length:=by omega
 obtain ⟨⟨_,hv⟩,ha,hal⟩:=hI _ (List.getElem_mem h2)
 refine ⟨N.length,_,rfl,gm h2,?_⟩
 refine ⟨rm _ hv,.inl ?_⟩
 refine .inl ?_
 refine .inr (ghNameC 3 0 1 2 rfl rfl rfl rfl (fun v=>ghHide 1 2 v (rowZ 3 cs[N.length].vars) rfl List.mem_cons_self rfl ⟨rfl,rfl,rfl⟩ (ghNo ?_)))
 have la:(cs[N.length].arrays.map intsG).length=cs[N.length].arrays.length:=by simp
 refine loopR (ι:=List Value) (fun vs=>[(6,.g (.int (vs.length:Int))),(3,.row 0),(5,.ptr 1 0)]) (fun vs=>[.row (N.map CN.g) 73 2,.blk [.g (.raw v),.row 2] 73,.row (vs.map fun a=>[.raw a]) 24 1,
   .many (manyZ 3 N (cs.take N.length)++(v,rowZ 3 cs[N.length].vars) :: List.zipWith (fun v l=>(v,rowZ 3 l)) vs (cs[N.length].arrays.take vs.length)) []]) (fun vs=>vs.length<=cs[N.length].arrays.length) (fun vs=>cs[N.length].arrays.length - vs.length)
  ⟨[],[.old 0,.old 3,.nil 24 1,.old 1],⟨rfl,.inr ⟨⟨rfl,rfl,rfl⟩,⟨rfl,.inr ⟨lk rfl,.inr rfl,trivial⟩⟩,⟨rfl,rfl,rfl⟩,⟨List.Perm.refl _,rfl⟩,trivial⟩,.inr ⟨lk rfl,lk rfl,lk rfl,trivial⟩,rfl⟩,Nat.zero_le _⟩ ?_
 intro Rj hRj vs hj
 have lv:(vs.map fun a=>[GV.raw a]).length=vs.length:=List.length_map _
 refine ⟨N.length,_,rfl,gm h2,?_⟩
 refine ⟨fun h3=>?_,fun h3=>?_⟩
 ·have h4:vs.length < cs[N.length].arrays.length:=by omega
  obtain ⟨_,hb⟩:=ha _ (List.getElem_mem h4)
  have hroom:(vs.map fun a=>[GV.raw a]).length+1<=maxLen/\((vs.map fun a=>[GV.raw a]).length+1)*24<=140737488355328:=⟨by unfold maxLen;omega,by omega⟩
  have hroom0:=rm _ hb
  refine ⟨some 60001,(.lead 0 (.lead 2 (.lead 3 (.lead 7 (.two (.run 1 (.run 4 (.lead 5 (.run 6 (.run 8 (.run 9 (.run 10 (.run 11 (.run 12 (.lead 13 (.run 14 .done))))))))))) (.run 4 (.lead 5 (.two (.run 1 (.run 6 (.run 8 (.run 9 (.run 10 (.run 11 (.run 12 (.lead 13 (.run 14 .done))))))))) (.run 6 (.two (.run 1 (.run 8 (.run 9 (.run 10 (.run 11 (.run 12 (.lead 13 (.run 14 .done)))))))) (.run 8 (.two (.run 1 (.run 9 (.run 10 (.run 11 (.run 12 (.lead 13 (.run 14 .done))))))) (.run 9 (.two (.run 1 (.run 10 (.run 11 (.run 12 (.lead 13 (.run 14 .done)))))) (.run 10 (.two (.run 1 (.run 11 (.run 12 (.lead 13 (.run 14 .done))))) (.run 11 (.run 1 (.run 12 (.lead 13 (.run 14 .done))))))))))))))))))))),rfl,?_⟩
  refine ⟨⟨N.length,_,rfl,gm h2,⟨vs.length,_,rfl,gm h4,⟨hroom0,.inl (ghName 3 4 rfl rfl (fun a=>ghHide 3 4 a (rowZ 3 cs[N.length].arrays[vs.length]) rfl List.mem_cons_self rfl ⟨rfl,rfl,rfl⟩ (ghNo ⟨[[.raw a]],rfl,rfl,⟨rfl,trivial⟩,⟨hroom,.inl (.inl (?_))⟩⟩)))⟩⟩⟩,⟨N.length,_,rfl,gm h2,⟨⟨vs.length,_,rfl,gm h4,⟨hroom0,.inl (ghName 3 4 rfl rfl (fun a=>ghHide 3 4 a (rowZ 3 cs[N.length].arrays[vs.length]) rfl List.mem_cons_self rfl ⟨rfl,rfl,rfl⟩ (ghNo ⟨[[.raw a]],rfl,rfl,⟨rfl,trivial⟩,⟨hroom,.inl (.inl (?_))⟩⟩)))⟩⟩,⟨⟨vs.length,_,rfl,gm h4,⟨hroom0,.inl (ghName 3 4 rfl rfl (fun a=>ghHide 3 4 a (rowZ 3 cs[N.length].arrays[vs.length]) rfl List.mem_cons_self rfl ⟨rfl,rfl,rfl⟩ (ghNo ⟨[[.raw a]],rfl,rfl,⟨rfl,trivial⟩,⟨hroom,.inl (.inl (?_))⟩⟩)))⟩⟩,⟨vs.length,_,rfl,gm h4,⟨⟨hroom0,.inl (ghName 3 4 rfl rfl (fun a=>ghHide 3 4 a (rowZ 3 cs[N.length].arrays[vs.length]) rfl List.mem_cons_self rfl ⟨rfl,rfl,rfl⟩ (ghNo ⟨[[.raw a]],rfl,rfl,⟨rfl,trivial⟩,⟨hroom,.inl (.inl (?_))⟩⟩)))⟩,⟨⟨hroom0,.inl (ghName 3 4 rfl rfl (fun a=>ghHide 3 4 a (rowZ 3 cs[N.length].arrays[vs.length]) rfl List.mem_cons_self rfl ⟨rfl,rfl,rfl⟩ (ghNo ⟨[[.raw a]],rfl,rfl,⟨rfl,trivial⟩,⟨hroom,.inl (.inl (?_))⟩⟩)))⟩,⟨hroom0,.inl (⟨ghName 3 4 rfl rfl (fun a=>ghHide 3 4 a (rowZ 3 cs[N.length].arrays[vs.length]) rfl List.mem_cons_self rfl ⟨rfl,rfl,rfl⟩ (ghNo ⟨[[.raw a]],rfl,rfl,⟨rfl,trivial⟩,⟨hroom,.inl (.inl (?_))⟩⟩)),ghName 3 4 rfl rfl (fun a=>ghHide 3 4 a (rowZ 3 cs[N.length].arrays[vs.length]) rfl List.mem_cons_self rfl ⟨rfl,rfl,rfl⟩ (ghNo ⟨[[.raw a]],rfl,rfl,⟨rfl,trivial⟩,⟨hroom,.inl (.inl (?_))⟩⟩))⟩)⟩⟩⟩⟩⟩⟩⟩⟩
  all_goals
   refine ⟨_,I64.wrap (by unfold I64;omega),?_⟩
   refine hRj _ _ _ ⟨vs++[a],[.old 0,.old 1,.old 6,.old 3],⟨rfl,.inr ⟨⟨rfl,rfl,rfl⟩,⟨rfl,.inl rfl⟩,⟨by rw[List.map_append];rfl,rfl,rfl⟩,⟨?_,rfl⟩,trivial⟩,.inr ⟨lkI (by simp),lk rfl,lk rfl,trivial⟩,rfl⟩,by simp;omega,by simp;omega⟩
   rw[List.length_append,List.length_singleton,take_one h4,zip_snoc _ _ _ _ _ (by simp;omega)]
   simp
 ·have hjl:vs.length=cs[N.length].arrays.length:=by omega
  have hzl:(cs[N.length].arrays.take vs.length)=cs[N.length].arrays:=by rw[hjl,List.take_length]
  refine ⟨[[.raw v,.sl 1 (vs.map fun a=>[.raw a])]],rfl,rfl,⟨rfl,rfl,trivial⟩,?_⟩
  refine ⟨⟨by simp only[maxLen,List.length_cons,List.length_nil,List.length_map];omega,by simp only[List.length_cons,List.length_nil,List.length_map];omega⟩,.inl ?_⟩
  refine ⟨_,I64.wrap (by unfold I64;omega),?_⟩
  have hlen:N.length=(cs.take N.length).length:=by rw[List.length_take];omega
  refine hRd _ _ _ ⟨N++[⟨v,vs⟩],[.old 5,.old 3],⟨rfl,.inr ⟨⟨by rw[List.map_append];rfl,rfl,rfl⟩,⟨?_,rfl⟩,trivial⟩,.inr ⟨lkI (by simp),lk rfl,trivial⟩,rfl⟩,⟨by simp;omega,?_⟩,by simp;omega⟩
  ·rw[List.length_append,List.length_singleton,take_one h2,many_snoc _ _ _ _ _ hlen,hzl]
   exact List.Perm.refl _
  ·rw[List.length_append,List.length_singleton,take_one h2]
   refine ⟨by simp;omega,fun i hi1 hi2=>?_⟩
   by_cases hin:i < N.length
   ·rw[List.getElem_append_left hin,List.getElem_append_left (by omega)]
    exact hN.ar i hin (by omega)
   ·have hie:i=N.length:=by simp at hi1;omega
    subst hie
    rw[List.getElem_append_right (by omega),List.getElem_append_right (by omega)]
    simpa using hjl
set_option maxRecDepth 20000 in
theorem value_zero {p:List Barb.Unit} {N:List CN}:ValC p N 0:=by
 intro c el s x hs hc he hx hxI
 have h0:s.fuel=0:=by have:=hs.fuel;omega
 rw[expr_none p _ c _ x s h0]
 refine enterHJ [] hT hF hM Try.func92 rfl 183 rfl (by kernel_rfl) [.tmp 6] rfl [.ptr 0 0,.ptr 1 0,.agg x.d] rfl (YH p N s c el) [0,1] rfl rfl rfl 2 [none] tgY _ ?_
 refine callBurnt [.blk x.d 97] (by omega) rfl rfl (fun h0=>?_) (fun h1 _ _=>absurd h0 h1)
 refine ⟨fun _=>?_,fun h=>absurd h (by decide)⟩
 exact ⟨rfl,.inl (endYF (s':=s) (el':=el) (f:=-1) (e:=3) (.g (.int 0)) [.old 0,.old 1,.old 2,.old 3,.old 6] rfl rfl rfl rfl (.inl rfl) rfl rfl rfl (List.Perm.refl _) ⟨0,-1,rfl⟩)⟩
set_option maxRecDepth 20000 in
theorem one_zero {p:List Barb.Unit} {N:List CN}:OneC p N 0:=by
 intro c el s x hs hc he hx hxI
 have h0:s.fuel=0:=by have:=hs.fuel;omega
 rw[stmt_none p _ c x _ s h0]
 refine enterHJ [] hT hF hM Try.func77 rfl 201 rfl (by kernel_rfl) [] rfl [.ptr 0 0,.ptr 1 0,.agg x.d] rfl (YH p N s c el) [0,1] rfl rfl rfl 2 [none] tgY _ ?_
 refine callBurnt [.blk x.d 93] (by omega) rfl rfl (fun h0=>?_) (fun h1 _ _=>absurd h0 h1)
 refine ⟨fun _=>?_,fun h=>absurd h (by decide)⟩
 exact ⟨rfl,.inl (endYF (s':=s) (el':=el) (f:=-1) (e:=3) (.tuple []) [.old 0,.old 1,.old 2,.old 3,.old 6] rfl rfl rfl rfl (.inl rfl) rfl rfl rfl (List.Perm.refl _) ⟨el,-1,rfl⟩)⟩
theorem mill_any {p:List Barb.Unit} (hp:PI p) (hpI:progI p) (N:List CN):∀ g,ValC p N g/\OneC p N g
 | 0=>⟨value_zero,one_zero⟩
 | g+1=>by
  obtain ⟨h1,h2⟩:=mill_any hp hpI N g
  have h3:=doneM_any hp h2
  exact ⟨value_any hp h1 (calledM_any hp hpI h3),one_any hp h1 h3⟩
set_option maxRecDepth 20000 in
theorem CalledOf_any (p:List Barb.Unit) (hpI:progI p) (cs:List Cells) (hI:∀ c∈cs,Cells.I c) (hl:cs.length*48<=140737488351232) (hc:cellsE p cs=0) (un fn:Str) (u i:Nat) (hu:u < p.length) (hun:unitIdx p un=(u:Int)) (hi:i < (uAt p u).funcs.length) (hfn:funIdx (uAt p u) fn=(i:Int))
  (args:List Int) (ha:args.length=((uAt p u).funcs.getD i noF).params.length) (hw:wds args) (deep fuel:Nat) (hd:deep<=19) (hf:fuel<=100000) :
  CT Try.prog [] 24 [.g (.sl 4 (p.map Unit.g)),.g (.sl 2 (cs.map Cells.g)),.g (.str un),.g (.str fn),.g (.sl 1 (args.map intG)),.g (.int (deep:Int)),.g (.int (fuel:Int))] (Is (callD (callR p cs u i args deep fuel))):=by
 obtain ⟨hpe,hlen,hcok⟩:=cellsE_ok hc
 have hp:=PI.of hpe
 have hal4:args.length<=4:=by rw[ha];exact (funE_inv ((unitE_inv (hp.unit _ (uAt_mem hu))).2.2.2.2.2.2 _ (fn_mem hi))).2.1
 have hcs:=CellsFault_any p hpI cs hI hl
 rw[hc] at hcs
 have hU:=UnitAt_any p (by have:=hp.few;omega) un
 rw[hun] at hU
 have hFn:=FuncAt_any (uAt p u) (by have:=(unitE_inv (hp.unit _ (uAt_mem hu))).2.2.2.1;omega) fn
 rw[hfn] at hFn
 have hgm:(p.map Unit.g)[u]?=some [.str (uAt p u).name,.sl 1 ((uAt p u).vars.map strG),.sl 2 ((uAt p u).arrays.map Arr.g),.sl 4 ((uAt p u).funcs.map Fun.g)]:=by rw[uAt_eq hu];exact gm hu
 suffices H:∀ r,callR p cs u i args deep fuel=r->CT Try.prog [] 24 [.g (.sl 4 (p.map Unit.g)),.g (.sl 2 (cs.map Cells.g)),.g (.str un),.g (.str fn),.g (.sl 1 (args.map intG)),.g (.int (deep:Int)),.g (.int (fuel:Int))] (Is (callD r)) from H _ rfl
 intro r hr
 refine enterJ [15,16] hT hF hM Try.func24 rfl 109 rfl (by kernel_rfl) [.cell 14 76,.tmp 15,.tmp 16] rfl [.g (.sl 4 (p.map Unit.g)),.g (.sl 2 (cs.map Cells.g)),.g (.str un),.g (.str fn),.g (.sl 1 (args.map intG)),.g (.int (deep:Int)),.g (.int (fuel:Int))] rfl _ ?_
 refine callIs (.inl rfl) hcs ?_
 refine ⟨fun h=>absurd rfl h,fun _=>?_⟩
 refine callIs (.inl rfl) hU ?_
 refine ⟨fun _=>?_,fun h=>absurd (show (0:Int)<=(u:Int) by omega) h⟩
 refine ⟨u,_,rfl,hgm,?_⟩
 have hfg:((uAt p u).funcs.map Fun.g)[i]?=some [.str (uAt p u).funcs[i].name,.bool (uAt p u).funcs[i].isOpen,.sl 1 ((uAt p u).funcs[i].params.map strG),.sl 5 ((uAt p u).funcs[i].body.map Stmt.g)]:=fnG hi
 have hpl:((uAt p u).funcs[i].params.map strG).length=args.length:=by rw[List.length_map,ha];simp[hi]
 have hal:(args.map intG).length=args.length:=List.length_map _
 refine callIs (.inl rfl) hFn ?_
 refine ⟨fun h=>absurd h (by omega),fun _=>?_⟩
 refine ⟨u,_,rfl,hgm,?_⟩
 refine ⟨i,_,rfl,hfg,?_⟩
 refine ⟨fun h=>absurd h (by omega),fun _=>?_⟩
 refine callIs (.inl rfl) (In_any _ _ _) ?_
 refine ⟨fun h=>absurd ⟨by omega,by omega⟩ h,fun _=>?_⟩
 refine callIs (.inl rfl) (In_any _ _ _) ?_
 refine ⟨fun h=>absurd ⟨by omega,by omega⟩ h,fun _=>?_⟩
 refine callIs (.inl rfl) (wordsMay_any args (by omega) _) ?_
 refine ⟨fun h=>absurd ⟨by omega,hw⟩ h,fun _=>?_⟩
 refine callQ (.inl rfl) (CellsOwn_any cs hI hl) (fun d h' hq=>?_) (fun d hq=>?_)
 rotate_left
 ·obtain ⟨N,_,hq⟩:=hq;cases hq
 obtain ⟨N,hN,hq⟩:=hq
 injection hq with q1 q2;subst q1;subst q2
 refine .inl ?_
 have hs:OkS p N fuel ⟨fuel,[],cs⟩:=⟨⟨hlen,hcok,Nat.zero_le _,fun _ h=>by simp at h⟩,⟨hN.len.trans hlen,fun j h1 h2=>by
  have h3:j < cs.length:=by omega
  rw[hN.ar j h1 h3];exact (hcok j h3 h2).1.2⟩,Nat.le_refl _,by omega⟩
 refine turnTo [.old 3,.old 2,.nil 3 1,.old 0] [(14,.ptr 3 0),(20,.ptr 0 0)] [.blk (kC p N 2 fuel 0) 108,.many (mz N ⟨fuel,[],cs⟩) [],.row (tz ⟨fuel,[],cs⟩) 3 1,.blk [.g (.int 0),.g (.int 0),.nils,.nils,.nils] 76]
  ⟨rfl,.inr ⟨⟨rfl,.inr ⟨lk rfl,lk rfl,.inr rfl,lk rfl,lk rfl,trivial⟩⟩,⟨List.Perm.refl _,rfl⟩,⟨rfl,rfl,rfl⟩,⟨rfl,.inl rfl⟩,trivial⟩,.inl rfl,rfl⟩ ?_
 refine ⟨⟨by unfold maxLen;omega,by show (args.map intG).length*8<=_;omega⟩,.inl ?_⟩
 refine callO [0,1,2,4] called_fn rfl rfl ⟨rfl,.inl rfl,.inl rfl,rfl⟩ (calledM_any hp hpI (doneM_any hp (mill_any hp hpI N fuel).2) u i args deep ⟨fuel,[],cs⟩ hs hu hi ha hw (by omega)) (fun d' h' hq=>?_) (fun d' h' hq=>?_)
 rotate_left
 ·change zQ p N (callR p cs u i args deep fuel) _ at hq
  rw[hr] at hq
  cases r with
  | ok n s'=>cases hq
  | stop e s'=>obtain ⟨v,f,hq⟩:=hq;cases hq
 change zQ p N (callR p cs u i args deep fuel) _ at hq
 rw[hr] at hq
 have hI2:=callF_I hp (evP_I hp fuel).2 hu hi ha hw deep hs.si
 rw[show callF p (evS p fuel) u i args deep ⟨fuel,[],cs⟩=r from hr] at hI2
 cases r with
 | ok n s' =>
  injection hq with q1 q2;subst q1;subst q2
  refine turnMelt (m:=1) (j:=0) (off:=1) rfl rfl rfl (hs.np.ni hI2.1) (turnNo ?_)
  refine ⟨some 60001,(.lead 0 (.lead 1 (.lead 2 (.lead 4 (.lead 5 (.lead 6 (.two (.run 3 (.two (.run 7 (.two (.run 8 (.run 9 (.run 10 .done))) (.run 9 (.run 8 (.run 10 .done))))) (.run 9 (.run 7 (.run 8 (.run 10 .done)))))) (.two (.run 7 (.two (.run 3 (.two (.run 8 (.run 9 (.run 10 .done))) (.run 9 (.run 8 (.run 10 .done))))) (.run 9 (.run 3 (.run 8 (.run 10 .done)))))) (.run 9 (.two (.run 3 (.run 7 (.run 8 (.run 10 .done)))) (.run 7 (.run 3 (.run 8 (.run 10 .done)))))))))))))),rfl,?_⟩
  refine ⟨⟨⟨?_,?_⟩,?_⟩,⟨⟨⟨?_,?_⟩,?_⟩,⟨?_,?_⟩⟩⟩
  all_goals
   refine ⟨fun _=>?_,fun h=>absurd rfl h⟩
   refine ⟨some 60001,(.lead 1 (.lead 2 (.lead 3 (.two (.run 0 (.two (.run 4 (.run 5 (.lead 6 (.lead 7 .done)))) (.run 5 (.run 4 (.lead 6 (.lead 7 .done)))))) (.run 4 (.run 0 (.run 5 (.lead 6 (.lead 7 .done))))))))),rfl,?_⟩
   refine ⟨⟨?_,?_⟩,?_⟩
   all_goals exact ⟨rfl,retIs (.inr (.inr ⟨.inr ⟨lk rfl,lk rfl,lk rfl,.inr rfl,.inr rfl,trivial⟩,lk rfl,lk rfl,trivial⟩))⟩
 | stop e s' =>
  obtain ⟨v,f,hq⟩:=hq
  injection hq with q1 q2;subst q1;subst q2
  have he:2<=e:=hI2.2.2.1
  refine turnMelt (m:=1) (j:=0) (off:=1) rfl rfl rfl (hs.np.ni hI2.1) (turnNo ?_)
  refine ⟨some 60001,(.lead 0 (.lead 1 (.lead 2 (.lead 4 (.lead 5 (.lead 6 (.two (.run 3 (.two (.run 7 (.two (.run 8 (.run 9 (.run 10 .done))) (.run 9 (.run 8 (.run 10 .done))))) (.run 9 (.run 7 (.run 8 (.run 10 .done)))))) (.two (.run 7 (.two (.run 3 (.two (.run 8 (.run 9 (.run 10 .done))) (.run 9 (.run 8 (.run 10 .done))))) (.run 9 (.run 3 (.run 8 (.run 10 .done)))))) (.run 9 (.two (.run 3 (.run 7 (.run 8 (.run 10 .done)))) (.run 7 (.run 3 (.run 8 (.run 10 .done)))))))))))))),rfl,?_⟩
  refine ⟨⟨⟨?_,?_⟩,?_⟩,⟨⟨⟨?_,?_⟩,?_⟩,⟨?_,?_⟩⟩⟩
  all_goals
   refine ⟨fun h=>absurd (show e=0 from h) (by omega),fun _=>?_⟩
   refine ⟨some 60001,(.lead 1 (.lead 2 (.lead 3 (.two (.run 0 (.two (.run 4 (.run 5 (.lead 6 (.lead 7 .done)))) (.run 5 (.run 4 (.lead 6 (.lead 7 .done)))))) (.run 4 (.run 0 (.run 5 (.lead 6 (.lead 7 .done))))))))),rfl,?_⟩
   refine ⟨⟨?_,?_⟩,?_⟩
   all_goals exact ⟨rfl,retIs (.inr (.inr ⟨.inr ⟨lk rfl,lk rfl,lk rfl,.inr rfl,.inr rfl,trivial⟩,lk rfl,lk rfl,trivial⟩))⟩
end Go.Proofs.Ythcmdjkaepclhaa
