import Derived.Test.YtpjjkiidjofflaaGreatDoorWDa2
namespace Go.Dm
open Go Go.Eng Go.RowKit
def Zd0 {α:Type} (z:α):List α->Nat->α
 | [],_=>z
 | a :: _,0=>a
 | _ :: l,n+1=>Zd0 z l n
class CA where
 b:Bool
 fl:Bool
 ms:Bool
 bs:Bool
def Zo7:Op->Bool
 | .call { callee:=.value _,.. }=>true
 | _=>false
def ZzR:Op->Bool
 | .alloc _=>true
 | _=>false
def ZCz:Op->Bool
 | .makeSlice _ _ _=>true
 | _=>false
def ZCB:Op->Bool
 | .buildSlice _ _ _=>true
 | _=>false
def qMk [CA] (o:Op):Bool:=(CA.ms && ZCz o) || (CA.bs && ZCB o)
def Zdl [CA] (o:Op):Bool:=(Zj5 o && !(CA.fl && ZzR o) && !qMk o) || (CA.b && Zo7 o)
def Zka [CA] (o:Oper):Bool:=CA.fl && ZzR o.op && (match o.guard with | none=>true | _=>false)
def ZsN:List Oper->Nat->Nat->Bool
 | [],_,c=>Nat.beq c 1
 | o :: l,s,c=>ZsN l s (match o.dst with | some d=>bif Nat.beq d s then c+1 else c | none=>c)
def Zua:Option Nat->Bool
 | some _=>true
 | none=>false
def Zq9 (T:Tab):Op->Bool
 | .alloc t=>match T t with | some _=>true | none=>false
 | _=>false
def ZBG (all:Array Oper):Option Nat->Bool
 | some s=>ZsN all.toList s 0
 | none=>false
theorem Zu4 [CA] {o:Op} (h:Zdl o=false) (hn:(CA.fl && ZzR o)=false) (hm:qMk o=false):Zj5 o=false:=by
 unfold Zdl at h;cases ha:Zj5 o with
 | true=>rw[ha,hn,hm] at h;cases h
 | false=>rfl
theorem Zt5 [CA] {o:Oper} (h:Zka o=true):Zdl o.op=false/\o.guard=none/\ZzR o.op=true:=by
 unfold Zka at h;simp only[Yaf] at h;obtain ⟨⟨h1,h2⟩,h3⟩:=h;refine ⟨?_,?_,h2⟩
 ·unfold Zdl;rw[h1,h2];cases ho:o.op with
  | alloc t=>simp[Zo7]
  | _=>rw[ho] at h2;cases h2
 ·split at h3
  ·assumption
  ·cases h3
def frq (z:Bool) (n:Nat) (d:D) (h:Zad) (K:KD):Prop:=bif z then (∃h0 xs e sz,h=h0++[Obj.row xs e sz]/\d=.row h0.length/\h0.length=n/\K (.g (.sl sz xs)) h0) else K d h
def ZBv (P:Program) (T:Tab) (F:FuncId->Bool) (G:Gl) (o:Op) (st:St) (K:D->Prop):Prop :=
 ZaK P T F G o ⟨st.env,[],st.df⟩ (λ_ h=>match h with
  | [.row xs _ sz]=>K (.g (.sl sz xs))
  | _=>False) (λ_ _=>False)
theorem ZmN:∀{cs:List D} {ys:List GV},ZgC [] cs ys->ZcI cs=[]
 | [],_,_=>rfl
 | d :: cs,[],h=>by simp only[ZgC] at h
 | d :: cs,y :: ys,h=>by
  simp only[ZgC] at h;have h2:=ZmN h.2;have h1:=h.1;simp only[ZcI,h2,YaF];cases d<;>first | rfl | (simp[Zu7] at h1)
theorem Zky {h':Zad}:∀{cs:List D} {ys:List GV},ZgC [] cs ys->ZgC h' cs ys
 | [],[],_=>trivial
 | [],_ :: _,h=>by simp only[ZgC] at h
 | d :: cs,[],h=>by simp only[ZgC] at h
 | d :: cs,y :: ys,h=>by
  simp only[ZgC] at h ⊢;refine ⟨?_,Zky h.2⟩;have h1:=h.1;cases d<;>first | exact h1 | (simp[Zu7] at h1)
theorem ZjJ {h':Zad} {d:D} (h:Zec [] d=true):Zec h' d=true:=by
 cases d<;>first | exact h | (simp[Zec] at h)
theorem ZjI {h':Zad}:∀{cs:List D},ZhL [] cs=true->ZhL h' cs=true
 | [],_=>rfl
 | d :: cs,h=>by simp only[ZhL,Yaf] at h ⊢;exact ⟨ZjJ h.1,ZjI h.2⟩
theorem ZnY {h':Zad} {d:D} {ds:List D} (h:ZeX [] d=some ds):ZeX h' d=some ds:=by
 have one:∀d:D,(bif Zec [] d then some [d] else none)=some ds->(bif Zec h' d then some [d] else none)=some ds:=λd h=>by
  cases hf:Zec [] d with
  | true=>rw[hf] at h;rw[ZjJ hf];exact h
  | false=>rw[hf] at h;cases h
 cases d with
 | agg cs =>
  simp only[ZeX] at h ⊢;cases hf:ZhL [] cs with
  | true=>rw[hf] at h;rw[ZjI hf];exact h
  | false=>rw[hf] at h;cases h
 | _=>(simp only[ZeX] at h ⊢;exact one _ h)
theorem Zh6 {h':Zad} {f:Operand->D}:∀{l:List (Nat × Operand)} {ps:List (Nat × List D)},ZcD [] f l=some ps->ZcD h' f l=some ps
 | [],_,h=>h
 | (i,o) :: l,ps,h=>by
  simp only[ZcD] at h ⊢;split at h
  ·rename_i ds r e1 e2;rw[ZnY e1,Zh6 e2];exact h
  ·cases h
theorem Zvo [CA] {P:Program} {T:Tab} {F:FuncId->Bool} {G:Gl} {o:Op} {st:St} {K:D->Prop} (hm:qMk o=true) (h:ZBv P T F G o st K):∃d,K d/\∀(h':Zad) (K':KD),K' d h'->ZaK P T F G o ⟨st.env,h',st.df⟩ (λd h=>frq true h'.length d h K') (λ_ _=>False):=by
 have hmk:ZCz o=true\/ZCB o=true:=by
  unfold qMk at hm;simp only[YaV,Yaf] at hm;rcases hm with hm | hm
  ·exact .inl hm.2
  ·exact .inr hm.2
 unfold ZBv at h;have svf:∀(h':Zad),sv G ⟨st.env,h',st.df⟩=sv G st:=λh'=>funext (λx=>by cases x<;>rfl);cases o with
 | makeSlice t l c =>
  simp only[ZaK,svf] at h ⊢;split at h
  ·split at h
   ·rename_i ei hte;cases hb:Nat.blt 0 ei.size with
    | false=>rw[hb] at h;exact h.elim
    | true =>rw[hb] at h;obtain ⟨len,cap,z,h1,h2,h3,h4,h5,h6,h7⟩:=h;exact ⟨_,h7,λh' K' hk=>⟨len,cap,z,h1,h2,h3,h4,h5,h6,h',_,_,_,rfl,rfl,rfl,hk⟩⟩
   ·exact h.elim
  ·exact h.elim
 | buildSlice t len parts =>
  simp only[ZaK,svf] at h ⊢;split at h
  ·rename_i e he;split at h
   ·rename_i ei hte;split at h
    ·cases h
    ·rename_i ps hps;split at h
     ·rename_i cs hcs;cases hb:(Nat.ble (len*ei.size) 16777216 && Nat.blt 0 ei.size) with
      | false=>rw[hb] at h;exact h.elim
      | true =>rw[hb] at h;obtain ⟨xs,h1,h2,h3,h4⟩:=h;have hi:=ZmN h3;rw[hi] at h4;refine ⟨_,h4,λh' K' hk=>?_⟩;simp only[Zh6 (h':=h') hps,hcs];exact ⟨xs,h1,h2,Zky h3,h',xs,_,_,by rw[hi];rfl,rfl,rfl,hk⟩
     ·exact h.elim
   ·exact h.elim
  ·exact h.elim
 | _=>rcases hmk with hmk | hmk<;>cases hmk
def ZsH (P:Program) (F:FuncId->Bool) (G:Gl) (f:Operand) (args:Array Operand) (st:St) (K:KD):Prop :=
 match sv G st f with
 | .fn g fs cs=>bif F g then Zb5 (fs++(args.toList.map (sv G st)++cs)) λall =>
   ∃es d0 h0,ZdX (all.map (conv st.h [] 4)) es/\CT P G g es (λo=>o=.ret d0 h0)/\(ZrU (ZcI all)=true)/\K (sh st.h.length 4 d0) (after st.h [] d0 h0) else False
 | _=>False
def vcA (P:Program) (T:Tab) (F:FuncId->Bool) (G:Gl) (o:Op) (st:St) (K:KD):Prop :=
 match o with
 | .call { callee:=.value f,args,.. }=>ZsH P F G f args st K
 | o=>ZaK P T F G o st K (λ_ _=>False)
theorem ZzG [CA] {P:Program} {T:Tab} {F:FuncId->Bool} {G:Gl} {o:Op} {st:St} {K:KD} (ha:Zdl o=true) (h:vcA P T F G o st K):∃d h1,K d h1/\(∀K':KD,K' d h1->ZaK P T F G o st K' (λ_ _=>False))/\(Zd1 o=false->Ex st.h h1):=by
 unfold vcA at h;split at h
 ·rename_i f args ts;unfold ZsH at h;split at h
  ·rename_i g fs cs ef;cases hg:F g with
   | false=>rw[hg] at h;exact h.elim
   | true =>
    rw[hg] at h;simp only[cond_true,ZaZ] at h;obtain ⟨es,d0,h0,h1,h2,h3,h4⟩:=h;have hi:ZcI (fs++(args.toList.map (sv G st)++cs))=[]:=by
     cases hi:ZcI (fs++(args.toList.map (sv G st)++cs)) with
     | nil=>rfl
     | cons x l=>rw[hi] at h3;cases h3
    refine ⟨_,_,h4,λK' hk=>?_,λ_=>?_⟩
    ·simp only[ZaK,ef,hg,cond_true,ZaZ];refine ZtF ⟨es,_,h1,h2,λd' h'' hq=>?_,λd' hq=>(by cases hq)⟩;injection hq with e1 e2;subst e1;subst e2;rw[hi];exact hk
    ·unfold after;cases ZcF 4 d0 && ZrU h0 with
     | true=>exact Ex.refl _
     | false=>exact Ex.app _ _
  ·exact h.elim
 ·rename_i hne;refine Zsn ?_ h;unfold Zdl at ha;cases hac:Zj5 o with
  | true=>rfl
  | false =>
   rw[hac] at ha;simp only[YcH,Bool.false_or,Yaf] at ha;exfalso;obtain ⟨_,ha⟩:=ha;unfold Zo7 at ha;split at ha
   ·rename_i f args ts;exact hne f args ts rfl
   ·cases ha
def Zab (o:Oper):List Nat:=o.after.toList.filterMap λe=>match e.ground with
 | .textOnly _=>none
 | .gcOnly _=>none
 | _=>some e.on
def ZaI (acc:List Nat):List Nat->Nat
 | []=>0
 | j :: l=>(2 ^ j) ||| (Zd0 0 acc j) ||| ZaI acc l
def Zt6:Op->Bool
 | .buildSlice _ _ _=>true
 | _=>false
def Znr:Option Nat->Bool
 | some p=>Nat.ble 2000 p
 | none=>false
def Zqn:Option Nat->Bool
 | some p=>Nat.ble 5000 p
 | none=>false
def ZlD (lt:Option Nat) (o:Op):Bool:=Zd1 o && !(Znr lt && Zt6 o)
def hpl (lt:Option Nat) (o:Op):Bool:=ZlU o || Zqn lt
def Zqi (c:Bool) (h0 h:Zad) (X:Prop):Prop:=bif c then (∃k,h=h0++k)/\X else X
theorem Zqh {c:Bool} {h0 h:Zad} {X:Prop} (hx:Zqi c h0 h X):X:=by
 cases c with
 | true=>exact hx.2
 | false=>exact hx
def ZzT [CA] (lt:Option Nat) (o:Oper):Bool:=hpl lt o.op || Zka o
def Zdk [CA] (lt:Option Nat) (all:Array Oper) (o p:Oper):Bool :=
 (match o.dst with | some d=>inL (p.looksAt all) d || (match p.dst with | some e=>Nat.beq d e | none=>false) | none=>false) ||
 (match p.dst with | some d=>inL (o.looksAt all) d | none=>false) ||
 (Zdl o.op && Zdl p.op) || (ZlD lt o.op && !ZzT lt p) || (ZlD lt p.op && !ZzT lt o)
def ZAz [CA] (lt:Option Nat) (all:Array Oper) (row:Nat) (o:Oper):Nat->List Oper->Bool
 | _,[]=>true
 | j,p :: l=>(!Zdk lt all o p || Nat.testBit row j) && ZAz lt all row o (j+1) l
def Zfo [CA] (lt:Option Nat) (all:Array Oper):List Oper->List Oper->List Nat->Bool
 | [],_,_=>true
 | o :: r,pre,acc=>Ziq pre.length (Zab o) && ZAz lt all (ZaI acc (Zab o)) o 0 pre && Zfo lt all r (pre++[o]) (acc++[ZaI acc (Zab o)])
def ZaX [CA]:List Oper->Nat
 | []=>0
 | o :: l=>bif Zdl o.op then ZaX l+1 else ZaX l
def Zdi [CA] (p:Nat->Bool):Nat->List Oper->Nat->Nat
 | _,[],best=>best
 | j,o :: l,best=>Zdi p (j+1) l (bif Zdl o.op && p j then j+1 else best)
def Zpn [CA] (row:Nat) (pre:List Oper):Nat:=ZaX (pre.take (Zdi (Nat.testBit row) 0 pre 0))
def ZgD (e:Env) (dst:Option Nat) (d:D):Env:=match dst with
 | some i=>e.set i d
 | none=>e
def ZsG (P:Program) (F:FuncId->Bool) (G:Gl) (f:Operand) (args:Array Operand) (st:St) (Qp:D->Prop) (K:D->Prop):Prop :=
 match sv G st f with
 | .fn g fs cs=>bif F g then Zb5 (fs++(args.toList.map (sv G st)++cs)) λall =>
   ∃as d dp,ZdX (all.map (conv [] [] 4)) as/\CT P G g as (λo=>o=.pan dp)/\(ZrU (ZcI all)=true)/\Qp dp/\K d else False
 | _=>False
def vcP (P:Program) (F:FuncId->Bool) (G:Gl) (o:Op) (st:St) (Qp:D->Prop) (K:D->Prop):Prop :=
 match o with
 | .call { callee:=.value f,args,.. }=>ZsG P F G f args st Qp K
 | _=>False
theorem ZxT {P:Program} {T:Tab} {F:FuncId->Bool} {G:Gl} {o:Op} {st:St} {Qp K:D->Prop} (h:vcP P F G o st Qp K):∃d,K d/\∀h':Zad,ZaK P T F G o ⟨st.env,h',st.df⟩ (λ_ _=>False) (λdp _=>Qp dp):=by
 have svf:∀(h':Zad),sv G ⟨st.env,h',st.df⟩=sv G st:=λh'=>funext (λx=>by cases x<;>rfl);unfold vcP at h;split at h
 ·rename_i f args ts;unfold ZsG at h;split at h
  ·rename_i g fs cs ef;cases hg:F g with
   | false=>rw[hg] at h;exact h.elim
   | true =>
    rw[hg] at h;simp only[cond_true,ZaZ] at h;obtain ⟨es,d,dp,h1,h2,h3,h4,h5⟩:=h;refine ⟨d,h5,λh'=>?_⟩;simp only[ZaK,svf,ef,hg,cond_true,ZaZ];have hi:ZcI (fs++(args.toList.map (sv G st)++cs))=[]:=by
     cases hi:ZcI (fs++(args.toList.map (sv G st)++cs)) with
     | nil=>rfl
     | cons x l=>rw[hi] at h3;cases h3
    refine ZtF ⟨es,_,by rw[ZqU (h:=[]) (h':=h') (λi o hi=>by simp at hi) (by rw[hi];rfl)];exact h1,h2,λd' h'' hq=>(by cases hq),λd' hq=>?_⟩;injection hq with e1;subst e1;exact h4
  ·exact h.elim
 ·exact h.elim
def ZB6:Option Nat->Nat->Bool
 | some p,i=>Nat.beq p i
 | none,_=>false
def ZB5:Option Nat->Nat->Bool
 | some p,i=>Nat.beq p (1000+i) || Nat.beq p (3000+i) || Nat.beq p (3500+i) || Nat.beq p (5600+i)
 | none,_=>false
def frz (z:Bool) (n:Nat) (d:D) (h:Zad) (K:KD):Prop:=bif z then (match d with
 | .row i=>match h[i]? with
  | some (.row xs _ sz)=>bif Nat.beq i n then K (.g (.sl sz xs)) (ZbS h [i]) else False
  | _=>False
 | _=>False) else K d h
theorem ZlY {n:Nat} {d:D} {h:Zad} {K:KD} (hk:frz true n d h K):∃xs e sz,d=.row n/\h[n]?=some (.row xs e sz)/\K (.g (.sl sz xs)) (ZbS h [n]):=by
 unfold frz at hk;simp only[cond_true] at hk;split at hk
 ·rename_i i;split at hk
  ·rename_i xs e sz hi;cases hb:Nat.beq i n with
   | false=>rw[hb] at hk;exact hk.elim
   | true =>rw[hb] at hk;have:=Yap hb;subst this;exact ⟨xs,e,sz,rfl,hi,hk⟩
  ·exact hk.elim
 ·exact hk.elim
theorem ZA1 {n:Nat} {h:Zad} {K:KD} {xs:List (List GV)} {e:TypeId} {sz:Nat} (hi:h[n]?=some (.row xs e sz)) (hk:K (.g (.sl sz xs)) (ZbS h [n])):frz true n (.row n) h K:=by unfold frz;simp only[cond_true,hi,YaO];exact hk
theorem ZA2 {h h1:Zad} (hx:Ex h h1):Ex h (ZbS h1 [h.length]):=λi o hi=>by have hl:i < h.length:=(Yaa.1 hi).1;simp only[ZbS];rw[YaR (by omega)];exact hx i o hi
def Zk3:List Nat->Nat->Bool
 | [],_=>false
 | p :: l,row=>Nat.testBit row p || Zk3 l row
theorem ZnT:∀{l:List Nat} {row:Nat},Zk3 l row=true->∃p∈l,Nat.testBit row p=true
 | [],_,h=>by cases h
 | p :: l,row,h=>by
  simp only[Zk3,YaV] at h;rcases h with h | h
  ·exact ⟨p,Yac,h⟩
  ·obtain ⟨q,hq,hb⟩:=ZnT h;exact ⟨q,Yad _ hq,hb⟩
def ZsD [CA] (P:Program) (T:Tab) (F:FuncId->Bool) (G:Gl) (pp:Option Nat) (Qp:D->Prop) (all:Array Oper) (o:Oper) (vcr:List Oper->List Nat->List Zad->Env->List Deferred->List Nat->(St->Prop)->Prop)
  (pre:List Oper) (acc:List Nat) (hs:List Zad) (env:Env) (df:List Deferred) (pn:List Nat) (K:St->Prop):Prop :=
 bif Zka o then (bif Zua o.dst && ZBG all o.dst && Zq9 T o.op then vcr (pre++[o]) (acc++[ZaI acc (Zab o)]) hs (ZgD env o.dst .any) df pn K else False)
 else bif CA.fl && ZzR o.op then False else
  let run:Env->Prop:=λenv =>
   bif Zdl o.op then vcA P T F G o.op ⟨env,Zd0 [] hs (ZaX pre),df⟩ (λd h=>frz (ZB5 pp pre.length) (Zd0 [] hs (ZaX pre)).length d h λd h=>Zqi (Znr pp && Zt6 o.op) (Zd0 [] hs (ZaX pre)) h (ZeW d λd=>Zep h λh=>vcr (pre++[o]) (acc++[ZaI acc (Zab o)]) (hs++[h]) (ZgD env o.dst d) df pn K))
   else bif Zk3 pn (ZaI acc (Zab o)) then ∃d,vcr (pre++[o]) (acc++[ZaI acc (Zab o)]) hs (ZgD env o.dst d) df pn K
   else bif ZB6 pp pre.length then vcP P F G o.op ⟨env,Zd0 [] hs (Zpn (ZaI acc (Zab o)) pre),df⟩ Qp (λd=>ZeW d λd=>vcr (pre++[o]) (acc++[ZaI acc (Zab o)]) hs (ZgD env o.dst d) df (pre.length :: pn) K)
   else bif qMk o.op then ZBv P T F G o.op ⟨env,[],df⟩ (λd=>ZeW d λd=>vcr (pre++[o]) (acc++[ZaI acc (Zab o)]) hs (ZgD env o.dst d) df pn K)
   else vcQ P T F G o.op ⟨env,bif Zqn pp then [] else Zd0 [] hs (Zpn (ZaI acc (Zab o)) pre),df⟩ (λd=>ZeW d λd=>vcr (pre++[o]) (acc++[ZaI acc (Zab o)]) hs (ZgD env o.dst d) df pn K)
  let skip:Env->Prop:=λenv=>vcr (pre++[o]) (acc++[ZaI acc (Zab o)]) (bif Zdl o.op then hs++[Zd0 [] hs (ZaX pre)] else hs) (ZgD env o.dst (.tuple [])) df pn K
  match o.guard with
  | none=>run env
  | some (j,b)=>match (all[j]?).bind (·.dst) with
   | none=>skip env
   | some s=>match env s with
    | .g (.bool true)=>bif b then run env else skip env
    | .g (.bool false)=>bif b then skip env else run env
    | .tuple _=>skip env
    | .pb p=>bif b then (p->run (env.set s (.g (.bool true))))/\(¬p->skip (env.set s (.g (.bool false))))
     else (p->skip (env.set s (.g (.bool true))))/\(¬p->run (env.set s (.g (.bool false))))
    | .pn p=>bif b then (¬p->run (env.set s (.g (.bool true))))/\(p->skip (env.set s (.g (.bool false))))
     else (¬p->skip (env.set s (.g (.bool true))))/\(p->run (env.set s (.g (.bool false))))
    | _=>False
def Zmq [CA] (P:Program) (T:Tab) (F:FuncId->Bool) (G:Gl) (pp:Option Nat) (Qp:D->Prop) (all:Array Oper) (l:List Oper):List Oper->List Nat->List Zad->Env->List Deferred->List Nat->(St->Prop)->Prop :=
 List.rec (motive:=λ_=>List Oper->List Nat->List Zad->Env->List Deferred->List Nat->(St->Prop)->Prop)
  (λpre _ hs env df pn K=>match pn with
   | []=>K ⟨env,Zd0 [] hs (ZaX pre),df⟩
   | _=>True)
  (λo _ vcr=>ZsD P T F G pp Qp all o vcr) l
theorem Zvp [CA] {P:Program} {T:Tab} {F:FuncId->Bool} {G:Gl} {pp:Option Nat} {Qp:D->Prop} {all:Array Oper} {pre:List Oper} {acc:List Nat} {hs:List Zad} {env:Env} {df:List Deferred} {pn:List Nat} {K:St->Prop} :
  Zmq P T F G pp Qp all [] pre acc hs env df pn K=match pn with | []=>K ⟨env,Zd0 [] hs (ZaX pre),df⟩ | _=>True:=rfl
theorem Zi4 [CA] {P:Program} {T:Tab} {F:FuncId->Bool} {G:Gl} {pp:Option Nat} {Qp:D->Prop} {all:Array Oper} {o:Oper} {r pre:List Oper} {acc:List Nat} {hs:List Zad} {env:Env} {df:List Deferred} {pn:List Nat} {K:St->Prop} :
  Zmq P T F G pp Qp all (o :: r) pre acc hs env df pn K=ZsD P T F G pp Qp all o (Zmq P T F G pp Qp all r) pre acc hs env df pn K:=rfl
structure Fact where
 d:D
 L:Env
 run:Bool
 pn:Bool
 dd:Bool
def TB (d:D) (b:Bool):Prop:=(∃p,d=.pb p/\(b=true↔p))\/(∃p,d=.pn p/\(b=true↔¬p))
def Ref (E L:Env):Prop:=∀s,L s=E s\/∃b,L s=.g (.bool b)/\TB (E s) b
theorem Ref.refl (E:Env):Ref E E:=λ_=>.inl rfl
theorem Ref.set {E L:Env} (h:Ref E L) (dst:Option Nat) (d:D):Ref (ZgD E dst d) (ZgD L dst d):=by
 cases dst with
 | none=>exact h
 | some i =>
  intro s;simp only[ZgD,Env.set];cases Nat.beq s i with
  | true=>exact .inl rfl
  | false=>exact h s
theorem Ref.bool {E L:Env} (h:Ref E L) {s:Nat} {b:Bool} (ht:TB (L s) b):Ref E (L.set s (.g (.bool b))):=by
 intro k;simp only[Env.set];by_cases hk:k=s
 ·subst hk;rw[YaO];refine .inr ⟨b,rfl,?_⟩;rcases h k with e | ⟨c,e,_⟩
  ·rw[<- e];exact ht
  ·rw[e] at ht;rcases ht with ⟨p,e,_⟩ | ⟨p,e,_⟩<;>cases e
 ·rw[ZcR hk];exact h k
theorem Ref.rep {E L:Env} (h:Ref E L) {H:Zad} {β:Nat->Value} {V:Nat->Prop} {w:World} {s:Nat} {v:Value} (hr:Zaa H β V w (E s) v):Zaa H β V w (L s) v:=by
 rcases h s with e | ⟨b,e,ht⟩
 ·rw[e];exact hr
 ·rw[e];rcases ht with ⟨p,e',hp⟩ | ⟨p,e',hp⟩
  ·rw[e'] at hr;simp only[Zaa,ZaW] at hr ⊢;obtain ⟨c,hv,hc⟩:=hr;have:c=b:=by have:=hc.trans hp.symm;cases b<;>cases c<;>simp_all
   rw[hv,this]
  ·rw[e'] at hr;simp only[Zaa,ZaW] at hr ⊢;obtain ⟨c,hv,hc⟩:=hr;have:c=b:=by have:=hc.trans hp.symm;cases b<;>cases c<;>simp_all
   rw[hv,this]
def Zeg (all:Array Oper) (o:Oper) (f:Fact):Prop:=match o.guard with
 | none=>f.run=true
 | some (j,b)=>match (all[j]?).bind (·.dst) with
  | none=>f.run=false
  | some s=>(∃c,f.L s=.g (.bool c)/\f.run=(c == b))\/(∃l,f.L s=.tuple l/\f.run=false)
structure FactAt [CA] (lt:Option Nat) (P:Program) (T:Tab) (F:FuncId->Bool) (G:Gl) (Qp:D->Prop) (all:Array Oper) (o:Oper) (f:Fact) (E:Env) (H:Nat->Zad) (na lo:Nat) (df:List Deferred):Prop where
 ref:Ref E f.L
 guard:Zeg all o f
 dead:f.dd=true->f.run=true/\Zdl o.op=false
 skip:f.run=false->f.d=.tuple []/\(Zdl o.op=true->H (na+1)=H na)
 act:f.run=true->Zdl o.op=true->(∃z:Bool,∀K':KD,K' f.d (H (na+1))->ZaK P T F G o.op ⟨f.L,H na,df⟩ (λd h=>frz z (H na).length d h K') (λ_ _=>False))/\(ZlD lt o.op=false->Ex (H na) (H (na+1)))
 pan:f.pn=true->f.run=true/\Zdl o.op=false/\∀h':Zad,ZaK P T F G o.op ⟨f.L,h',df⟩ (λ_ _=>False) (λdp _=>Qp dp)
 quiet:Zka o=false->f.run=true->Zdl o.op=false->f.pn=false->f.dd=false->∃z:Bool,∀(h':Zad) (K':KD),(Ex (H lo) h'\/hpl lt o.op=true)->K' f.d h'->ZaK P T F G o.op ⟨f.L,h',df⟩ (λd h=>frq z h'.length d h K') (λ_ _=>False)
 flt:Zka o=true->f.d=.any/\f.run=true/\f.pn=false/\f.dd=false/\(Zua o.dst && ZBG all o.dst && Zq9 T o.op)=true
def foldE (E:Env):List Oper->List Fact->Env
 | o :: r,f :: fs=>foldE (ZgD E o.dst f.d) r fs
 | _,_=>E
theorem ZgX {α:Type} {z:α}:∀{l m:List α} {i:Nat},i < l.length->Zd0 z (l++m) i=Zd0 z l i
 | [],_,_,h=>by simp at h
 | a :: l,m,0,_=>rfl
 | a :: l,m,i+1,h=>by simp only[List.cons_append,Zd0];exact ZgX (by simpa using h)
theorem ZgW {α:Type} {z:α}:∀{l:List α} {a:α} {m:List α},Zd0 z (l++a :: m) l.length=a
 | [],a,m=>rfl
 | b :: l,a,m=>by simp only[List.cons_append,List.length_cons,Zd0];exact ZgW
theorem ZcQ [CA]:∀(pre:List Oper) (o:Oper),ZaX (pre++[o])=bif Zdl o.op then ZaX pre+1 else ZaX pre
 | [],o=>by simp[ZaX]
 | p :: pre,o=>by
  simp only[List.cons_append,ZaX,ZcQ pre o];cases Zdl p.op<;>cases Zdl o.op<;>rfl
theorem Zd5 [CA]:∀(l:List Oper) (k:Nat),ZaX (l.take k)<=ZaX l
 | [],k=>by simp
 | o :: l,0=>by simp[ZaX]
 | o :: l,k+1=>by
  have:=Zd5 l k;simp only[List.take_succ_cons,ZaX];cases Zdl o.op<;>simp<;>omega
theorem Zzt [CA] (row:Nat) (l:List Oper):Zpn row l<=ZaX l:=Zd5 _ _
theorem Zg2 [CA] {p:Nat->Bool}:∀(l:List Oper) (j best k:Nat) (o:Oper),l[k]?=some o->Zdl o.op=true->p (j+k)=true->j+k < Zdi p j l best
 | [],_,_,_,_,h,_,_=>by simp at h
 | o :: l,j,best,0,o',h,ha,hp=>by
  simp at h;subst h;have mono:∀(l:List Oper) (j b:Nat),b<=j->b<=Zdi p j l b:=by
   intro l
   induction l with
   | nil=>intro j b _;exact Yax _
   | cons o l ih =>
    intro j b hb;simp only[Zdi];cases Zdl o.op && p j with
    | true=>simp only[cond_true];exact YaB (by omega) (ih (j+1) (j+1) (Yax _))
    | false=>simp only[cond_false];exact ih (j+1) b (by omega)
  simp only[Zdi,ha,Ycs];rw[Nat.add_zero] at hp ⊢;rw[hp];simp only[cond_true];exact mono l (j+1) (j+1) (Yax _)
 | o :: l,j,best,k+1,o',h,ha,hp=>by simp only[Zdi];have:=Zg2 l (j+1) (bif Zdl o.op && p j then j+1 else best) k o' (by simpa using h) ha (by rw[show j+1+k=j+(k+1) from by omega];exact hp);omega
theorem Zcw [CA] {p:Nat->Bool}:∀(l:List Oper) (j best:Nat),Zdi p j l best=best\/∃k o,l[k]?=some o/\Zdl o.op=true/\p (j+k)=true/\Zdi p j l best=j+k+1
 | [],_,_=>.inl rfl
 | o :: l,j,best=>by
  simp only[Zdi];rcases Zcw l (j+1) (bif Zdl o.op && p j then j+1 else best) with h | ⟨k,o',h1,h2,h3,h4⟩
  ·cases hc:Zdl o.op && p j with
   | true =>rw[hc] at h;simp only[Yaf] at hc;exact .inr ⟨0,o,rfl,hc.1,hc.2,by simpa using h⟩
   | false=>rw[hc] at h;exact .inl h
  ·exact .inr ⟨k+1,o',by simpa using h1,h2,by rw[show j+(k+1)=j+1+k from by omega];exact h3,by rw[h4];omega⟩
theorem Zjx [CA] {p q:Nat->Bool}:∀(l:List Oper) (j best:Nat),(∀(k:Nat) (o:Oper),l[k]?=some o->Zdl o.op=true->p (j+k)=q (j+k))->Zdi p j l best=Zdi q j l best
 | [],_,_,_=>rfl
 | o :: l,j,best,h=>by
  simp only[Zdi];have h0:(Zdl o.op && p j)=(Zdl o.op && q j):=by
   cases ha:Zdl o.op with
   | false=>rfl
   | true=>have:=h 0 o rfl ha;simpa using this
  rw[h0];exact Zjx l (j+1) _ (λk o' hk ha=>by rw[show j+1+k=j+(k+1) from by omega];exact h (k+1) o' (by simpa using hk) ha)
def Zax (l:List Oper):List Nat:=l.foldl (λacc o=>acc++[ZaI acc (Zab o)]) []
theorem ZfQ (l:List Oper) (o:Oper):Zax (l++[o])=Zax l++[ZaI (Zax l) (Zab o)]:=by simp[Zax,List.foldl_append]
section
variable {P:Program} {T:Tab} {F:FuncId->Bool} {G:Gl} {all:Array Oper}
theorem Zri [CA] {pp:Option Nat} {Qp:D->Prop}:∀(r pre:List Oper) (hs:List Zad) (E env:Env) (df:List Deferred) (pn:List Nat) (K:St->Prop),Zmq P T F G pp Qp all r pre (Zax pre) hs env df pn K->Ref E env->hs.length=ZaX pre+1 ->
  ∃(fs:List Fact) (hs':List Zad) (L:Env),fs.length=r.length/\Ref (foldE E r fs) L/\(pn=[]->(∀f∈fs,f.pn=false)->K ⟨L,Zd0 [] (hs++hs') (ZaX (pre++r)),df⟩) /\
   ∀(i:Nat) (o:Oper) (f:Fact),r[i]?=some o->fs[i]?=some f ->
    FactAt pp P T F G Qp all o f (foldE E (r.take i) (fs.take i)) (Zd0 [] (hs++hs')) (ZaX (pre++r.take i)) (Zpn (ZaI (Zax (pre++r.take i)) (Zab o)) (pre++r.take i)) df /\
    (f.dd=true->∃p,Nat.testBit (ZaI (Zax (pre++r.take i)) (Zab o)) p=true/\(p∈pn\/∃i' f',p=pre.length+i'/\fs[i']?=some f'/\f'.pn=true)):=by
 intro r
 induction r with
 | nil =>intro pre hs E env df pn K h hr hl;refine ⟨[],[],env,rfl,hr,λhp _=>by subst hp;simpa [Zvp] using h,λi o f hi=>by simp at hi⟩
 | cons o r ih =>
  intro pre hs E env df pn K h hr hl
  let Goal:Prop:=∃(fs:List Fact) (hs':List Zad) (L:Env),fs.length=(o :: r).length/\Ref (foldE E (o :: r) fs) L/\(pn=[]->(∀f∈fs,f.pn=false)->K ⟨L,Zd0 [] (hs++hs') (ZaX (pre++o :: r)),df⟩) /\
     ∀(i:Nat) (o':Oper) (f:Fact),(o :: r)[i]?=some o'->fs[i]?=some f ->
      FactAt pp P T F G Qp all o' f (foldE E ((o :: r).take i) (fs.take i)) (Zd0 [] (hs++hs')) (ZaX (pre++(o :: r).take i)) (Zpn (ZaI (Zax (pre++(o :: r).take i)) (Zab o')) (pre++(o :: r).take i)) df /\
      (f.dd=true->∃p,Nat.testBit (ZaI (Zax (pre++(o :: r).take i)) (Zab o')) p=true/\(p∈pn\/∃i' f',p=pre.length+i'/\fs[i']?=some f'/\f'.pn=true))
  show Goal;have build:∀(d:D) (L:Env) (b fp fd:Bool) (pn':List Nat) (hsn:List Zad),(pn=[]->fp=false->pn'=[])->(∀p∈pn',p∈pn\/(p=pre.length/\fp=true))->(fd=true->∃p∈pn,Nat.testBit (ZaI (Zax pre) (Zab o)) p=true)->Ref E L->Zmq P T F G pp Qp all r (pre++[o]) (Zax pre++[ZaI (Zax pre) (Zab o)]) (hs++hsn) (ZgD L o.dst d) df pn' K->(hs++hsn).length=ZaX (pre++[o])+1 ->
    (∀H:Nat->Zad,(∀k,k < (hs++hsn).length->H k=Zd0 [] (hs++hsn) k)->FactAt pp P T F G Qp all o ⟨d,L,b,fp,fd⟩ E H (ZaX pre) (Zpn (ZaI (Zax pre) (Zab o)) pre) df) ->
    Goal:=by
   intro d L b fp fd pn' hsn hpn hpm hfd hrL hv hlen hf;rw[<- ZfQ] at hv;obtain ⟨fs,hs',L',h1,h2,h3,h4⟩:=ih (pre++[o]) (hs++hsn) (ZgD E o.dst d) _ df pn' K hv (hrL.set o.dst d) hlen;refine ⟨⟨d,L,b,fp,fd⟩ :: fs,hsn++hs',L',by simp[h1],h2,λhp hall=>by simpa [List.append_assoc] using h3 (hpn hp (hall _ Yac)) (λf hf=>hall f (Yad _ hf)),λi o' f ho hfi=>?_⟩;cases i with
   | zero =>simp at ho hfi;subst ho;subst hfi;have:=hf (Zd0 [] (hs++(hsn++hs'))) (λk hk=>by rw[<- Yas];exact ZgX hk);refine ⟨by simpa [foldE] using this,λhdd=>?_⟩;obtain ⟨p,hp,hb⟩:=hfd hdd;exact ⟨p,by simpa using hb,.inl hp⟩
   | succ i =>
    obtain ⟨this,hdd⟩:=h4 i o' f (by simpa using ho) (by simpa using hfi);refine ⟨by simpa [foldE,List.append_assoc] using this,λhd=>?_⟩;obtain ⟨p,hb,hp⟩:=hdd hd;refine ⟨p,by simpa [List.append_assoc] using hb,?_⟩;rcases hp with hp | ⟨i',f',hp,hf',hpf⟩
    ·rcases hpm p hp with hp | ⟨hp,hfp⟩
     ·exact .inl hp
     ·exact .inr ⟨0,_,by simpa using hp,rfl,hfp⟩
    ·exact .inr ⟨i'+1,f',by rw[hp];simp;omega,by simpa using hf',hpf⟩
  cases hfl:Zka o with
  | true =>
   obtain ⟨hact,hgd,_⟩:=Zt5 hfl;simp only[Zi4,ZsD,hfl,cond_true] at h;cases hd:Zua o.dst && ZBG all o.dst && Zq9 T o.op with
   | false=>rw[hd] at h;exact h.elim
   | true =>rw[hd] at h;simp only[cond_true] at h;refine build .any env true false false pn [] (λh _=>h) (λp hp=>.inl hp) (λh=>by cases h) hr (by simpa using h) (by simp[ZcQ,hact,hl]) (λH hH=>?_);exact ⟨hr,(by unfold Zeg;rw[hgd]),λhf=>(by cases hf),λhf=>(by cases hf),λ_ hq=>(by rw[hact] at hq;cases hq),λhf=>(by cases hf),λhq=>(by rw[hfl] at hq;cases hq),λ_=>⟨rfl,rfl,rfl,rfl,hd⟩⟩
  | false =>
  cases hal:(CA.fl && ZzR o.op) with
  | true=>simp only[Zi4,ZsD,hfl,hal,cond_true,cond_false] at h
  | false =>
  have run:∀L:Env,Ref E L->Zeg all o ⟨.any,L,true,false,false⟩ ->
    (bif Zdl o.op then vcA P T F G o.op ⟨L,Zd0 [] hs (ZaX pre),df⟩ (λd h=>frz (ZB5 pp pre.length) (Zd0 [] hs (ZaX pre)).length d h λd h=>Zqi (Znr pp && Zt6 o.op) (Zd0 [] hs (ZaX pre)) h (ZeW d λd=>Zep h λh=>Zmq P T F G pp Qp all r (pre++[o]) (Zax pre++[ZaI (Zax pre) (Zab o)]) (hs++[h]) (ZgD L o.dst d) df pn K))
     else bif Zk3 pn (ZaI (Zax pre) (Zab o)) then ∃d,Zmq P T F G pp Qp all r (pre++[o]) (Zax pre++[ZaI (Zax pre) (Zab o)]) hs (ZgD L o.dst d) df pn K
     else bif ZB6 pp pre.length then vcP P F G o.op ⟨L,Zd0 [] hs (Zpn (ZaI (Zax pre) (Zab o)) pre),df⟩ Qp (λd=>ZeW d λd=>Zmq P T F G pp Qp all r (pre++[o]) (Zax pre++[ZaI (Zax pre) (Zab o)]) hs (ZgD L o.dst d) df (pre.length :: pn) K)
     else bif qMk o.op then ZBv P T F G o.op ⟨L,[],df⟩ (λd=>ZeW d λd=>Zmq P T F G pp Qp all r (pre++[o]) (Zax pre++[ZaI (Zax pre) (Zab o)]) hs (ZgD L o.dst d) df pn K)
     else vcQ P T F G o.op ⟨L,bif Zqn pp then [] else Zd0 [] hs (Zpn (ZaI (Zax pre) (Zab o)) pre),df⟩ (λd=>ZeW d λd=>Zmq P T F G pp Qp all r (pre++[o]) (Zax pre++[ZaI (Zax pre) (Zab o)]) hs (ZgD L o.dst d) df pn K))->Goal:=by
   intro L hrL hg hrun;have hlo:Zpn (ZaI (Zax pre) (Zab o)) pre < hs.length:=by have:=Zzt (ZaI (Zax pre) (Zab o)) pre;omega
   cases hact:Zdl o.op with
   | true =>
    rw[hact] at hrun;simp only[cond_true,Zfk,Zdj] at hrun;have hone:∃z d h1,Zmq P T F G pp Qp all r (pre++[o]) (Zax pre++[ZaI (Zax pre) (Zab o)]) (hs++[h1]) (ZgD L o.dst d) df pn K/\(∀K':KD,K' d h1->ZaK P T F G o.op ⟨L,Zd0 [] hs (ZaX pre),df⟩ (λd h=>frz z (Zd0 [] hs (ZaX pre)).length d h K') (λ_ _=>False))/\(ZlD pp o.op=false->Ex (Zd0 [] hs (ZaX pre)) h1):=by
     obtain ⟨d,h1,hk,hop,hex⟩:=ZzG hact hrun;have lite:∀{h1:Zad} {X:Prop},Zqi (Znr pp && Zt6 o.op) (Zd0 [] hs (ZaX pre)) h1 X->(Zd1 o.op=false->Ex (Zd0 [] hs (ZaX pre)) h1)->ZlD pp o.op=false->Ex (Zd0 [] hs (ZaX pre)) h1:=fun {h1 X} hx hm hmu=>by
      cases hl:Znr pp && Zt6 o.op with
      | true =>rw[hl] at hx;obtain ⟨⟨k,rfl⟩,_⟩:=hx;exact Ex.app _ _
      | false=>exact hm (by simpa [ZlD,hl] using hmu)
     cases hz:ZB5 pp pre.length with
     | false=>rw[hz] at hk;exact ⟨false,d,h1,Zqh hk,λK' hk'=>hop _ hk',lite hk hex⟩
     | true =>rw[hz] at hk;obtain ⟨xs,e,sz,rfl,hi,hk⟩:=ZlY hk;exact ⟨true,_,_,Zqh hk,λK' hk'=>hop _ (ZA1 hi hk'),lite hk (λhm=>ZA2 (hex hm))⟩
    obtain ⟨z,d,h1,hk,hop,hex⟩:=hone;refine build d L true false false pn [h1] (λh _=>h) (λp hp=>.inl hp) (λh=>by cases h) hrL hk (by simp[ZcQ,hact,hl]) (λH hH=>?_);have e0:H (ZaX pre)=Zd0 [] hs (ZaX pre):=by rw[hH _ (by simp;omega)];exact ZgX (by omega)
    have e1:H (ZaX pre+1)=h1:=by rw[hH _ (by simp;omega),<- hl];exact ZgW
    refine ⟨hrL,hg,λhf=>(by cases hf),λhf=>(by cases hf),λ_ _=>⟨⟨z,λK' hk'=>?_⟩,λhm=>?_⟩,λhf=>(by cases hf),λ_ _ hq=>(by rw[hact] at hq;cases hq),λhq=>(by rw[hfl] at hq;cases hq)⟩
    ·rw[e0];exact hop K' (by rw[<- e1];exact hk')
    ·rw[e0,e1];exact hex hm
   | false =>
    rw[hact] at hrun;simp only[cond_false,Zfk] at hrun;cases hdd:Zk3 pn (ZaI (Zax pre) (Zab o)) with
    | true =>rw[hdd] at hrun;simp only[cond_true] at hrun;obtain ⟨d,hk⟩:=hrun;refine build d L true false true pn [] (λh _=>h) (λp hp=>.inl hp) (λ_=>ZnT hdd) hrL (by simpa using hk) (by simp[ZcQ,hact,hl]) (λH hH=>?_);exact ⟨hrL,hg,λ_=>⟨rfl,hact⟩,λhf=>(by cases hf),λ_ hq=>(by rw[hact] at hq;cases hq),λhf=>(by cases hf),λ_ _ _ _ hq=>(by cases hq),λhq=>(by rw[hfl] at hq;cases hq)⟩
    | false =>
    rw[hdd] at hrun;simp only[cond_false] at hrun;cases hpp:ZB6 pp pre.length with
    | true =>rw[hpp] at hrun;simp only[cond_true] at hrun;obtain ⟨d,hk,hop⟩:=ZxT (T:=T) hrun;refine build d L true true false (pre.length :: pn) [] (λ_ h=>by cases h) (λp hp=>by rcases Yav.1 hp with rfl | hp;exact .inr ⟨rfl,rfl⟩;exact .inl hp) (λh=>by cases h) hrL (by simpa using hk) (by simp[ZcQ,hact,hl]) (λH hH=>?_);exact ⟨hrL,hg,λhf=>(by cases hf),λhf=>(by cases hf),λ_ hq=>(by rw[hact] at hq;cases hq),λ_=>⟨rfl,hact,hop⟩,λ_ _ _ hq=>(by cases hq),λhq=>(by rw[hfl] at hq;cases hq)⟩
    | false =>
    rw[hpp] at hrun;simp only[cond_false] at hrun;have key:∃d,Zmq P T F G pp Qp all r (pre++[o]) (Zax pre++[ZaI (Zax pre) (Zab o)]) hs (ZgD L o.dst d) df pn K/\∃z:Bool,∀(h':Zad) (K':KD),(Ex (Zd0 [] hs (Zpn (ZaI (Zax pre) (Zab o)) pre)) h'\/hpl pp o.op=true)->K' d h'->ZaK P T F G o.op ⟨L,h',df⟩ (λd h=>frq z h'.length d h K') (λ_ _=>False):=by
     cases hqm:qMk o.op with
     | true =>rw[hqm] at hrun;simp only[cond_true] at hrun;obtain ⟨d,hk,hop⟩:=Zvo hqm hrun;exact ⟨d,hk,true,λh' K' _ hk'=>hop h' K' hk'⟩
     | false =>
     rw[hqm] at hrun;simp only[cond_false] at hrun;cases hhl:ZlU o.op with
     | true =>obtain ⟨d,hk,hop⟩:=ZxS hhl hrun;exact ⟨d,hk,false,λh' K' _ hk'=>hop h' K' hk'⟩
     | false =>
      obtain ⟨d,hk,hop⟩:=Zsz (Zu4 hact hal hqm) hrun;refine ⟨d,hk,false,λh' K' hx hk'=>hop h' K' ?_ hk'⟩;cases hfr:Zqn pp with
      | true=>exact λi o hi=>(by simp at hi)
      | false =>
       rcases hx with hx | hx
       ·exact hx
       ·simp[hpl,hhl,hfr] at hx
    obtain ⟨d,hk,z,hop⟩:=key;refine build d L true false false pn [] (λh _=>h) (λp hp=>.inl hp) (λh=>by cases h) hrL (by simpa using hk) (by simp[ZcQ,hact,hl]) (λH hH=>?_);have e0:H (Zpn (ZaI (Zax pre) (Zab o)) pre)=Zd0 [] hs (Zpn (ZaI (Zax pre) (Zab o)) pre):=by rw[hH _ (by simpa using hlo)];simp
    exact ⟨hrL,hg,λhf=>(by cases hf),λhf=>(by cases hf),λ_ hq=>(by rw[hact] at hq;cases hq),λhf=>(by cases hf),λ_ _ _ _ _=>⟨z,λh' K' hx hk'=>hop h' K' (by rw[<- e0];exact hx) hk'⟩,λhq=>(by rw[hfl] at hq;cases hq)⟩
  have skip:∀L:Env,Ref E L->Zeg all o ⟨.any,L,false,false,false⟩ ->
    Zmq P T F G pp Qp all r (pre++[o]) (Zax pre++[ZaI (Zax pre) (Zab o)]) (bif Zdl o.op then hs++[Zd0 [] hs (ZaX pre)] else hs) (ZgD L o.dst (.tuple [])) df pn K->Goal:=by
   intro L hrL hg hsk;cases hact:Zdl o.op with
   | true =>
    rw[hact] at hsk;refine build (.tuple []) L false false false pn [Zd0 [] hs (ZaX pre)] (λh _=>h) (λp hp=>.inl hp) (λh=>by cases h) hrL hsk (by simp[ZcQ,hact,hl]) (λH hH=>?_);have e0:H (ZaX pre)=Zd0 [] hs (ZaX pre):=by rw[hH _ (by simp;omega)];exact ZgX (by omega)
    have e1:H (ZaX pre+1)=Zd0 [] hs (ZaX pre):=by rw[hH _ (by simp;omega),<- hl];exact ZgW
    exact ⟨hrL,hg,λhf=>(by cases hf),λ_=>⟨rfl,λ_=>by rw[e0,e1]⟩,λhf=>(by cases hf),λhf=>(by cases hf),λ_ hf=>(by cases hf),λhq=>(by rw[hfl] at hq;cases hq)⟩
   | false =>rw[hact] at hsk;refine build (.tuple []) L false false false pn [] (λh _=>h) (λp hp=>.inl hp) (λh=>by cases h) hrL (by simpa using hsk) (by simp[ZcQ,hact,hl]) (λH hH=>?_);exact ⟨hrL,hg,λhf=>(by cases hf),λ_=>⟨rfl,λhq=>(by rw[hact] at hq;cases hq)⟩,λhf=>(by cases hf),λhf=>(by cases hf),λ_ hf=>(by cases hf),λhq=>(by rw[hfl] at hq;cases hq)⟩
  simp only[Zi4,ZsD,hfl,hal,cond_false] at h;cases hgd:o.guard with
  | none =>rw[hgd] at h;exact run env hr (by simp[Zeg,hgd]) h
  | some g =>
   obtain ⟨j,b⟩:=g;rw[hgd] at h;simp only at h;cases hs0:(all[j]?).bind (·.dst) with
   | none =>rw[hs0] at h;exact skip env hr (by simp[Zeg,hgd,hs0]) h
   | some s =>
    rw[hs0] at h;simp only at h;have gd:∀(L:Env) (c rb:Bool),L s=.g (.bool c)->rb=(c == b)->Zeg all o ⟨.any,L,rb,false,false⟩:=λL c rb e1 e2=>by simp only[Zeg,hgd,hs0];exact .inl ⟨c,e1,e2⟩
    have ss:∀c:Bool,(env.set s (.g (.bool c))) s=.g (.bool c):=λc=>by simp[Env.set]
    split at h
    ·rename_i e;cases b with
     | true=>exact run env hr (gd env true true e rfl) h
     | false=>exact skip env hr (gd env true false e rfl) h
    ·rename_i e;cases b with
     | true=>exact skip env hr (gd env false false e rfl) h
     | false=>exact run env hr (gd env false true e rfl) h
    ·rename_i l e;exact skip env hr (by simp only[Zeg,hgd,hs0];exact .inr ⟨l,e,trivial⟩) h
    ·rename_i p e;by_cases hp:p
     ·have hrb:Ref E (env.set s (.g (.bool true))):=hr.bool (.inl ⟨p,e,by simp[hp]⟩);cases b with
      | true=>exact run _ hrb (gd _ true true (ss true) rfl) (h.1 hp)
      | false=>exact skip _ hrb (gd _ true false (ss true) rfl) (h.1 hp)
     ·have hrb:Ref E (env.set s (.g (.bool false))):=hr.bool (.inl ⟨p,e,by simp[hp]⟩);cases b with
      | true=>exact skip _ hrb (gd _ false false (ss false) rfl) (h.2 hp)
      | false=>exact run _ hrb (gd _ false true (ss false) rfl) (h.2 hp)
    ·rename_i p e;by_cases hp:p
     ·have hrb:Ref E (env.set s (.g (.bool false))):=hr.bool (.inr ⟨p,e,by simp[hp]⟩);cases b with
      | true=>exact skip _ hrb (gd _ false false (ss false) rfl) (h.2 hp)
      | false=>exact run _ hrb (gd _ false true (ss false) rfl) (h.2 hp)
     ·have hrb:Ref E (env.set s (.g (.bool true))):=hr.bool (.inr ⟨p,e,by simp[hp]⟩);cases b with
      | true=>exact run _ hrb (gd _ true true (ss true) rfl) (h.1 hp)
      | false=>exact skip _ hrb (gd _ true false (ss true) rfl) (h.1 hp)
    ·exact h.elim
def eXr (X:Nat->Bool):Nat->Env->List Oper->List Fact->Env
 | i,E,o :: r,f :: fs=>eXr X (i+1) (bif X i then ZgD E o.dst f.d else E) r fs
 | _,E,_,_=>E
theorem Zyj {E:Env} {dst:Option Nat} {d:D} {s:Nat} (h:dst≠some s):ZgD E dst d s=E s:=by
 cases dst with
 | none=>rfl
 | some i =>simp only[ZgD,Env.set];rw[ZcR (λe=>h (by rw[e]))];rfl
theorem ZoE {E:Env} {d:D} {s:Nat}:ZgD E (some s) d s=d:=by simp[ZgD,Env.set]
theorem Zfn {X Y:Nat->Bool} {s:Nat}:∀(r:List Oper) (fs:List Fact) (i:Nat) (E E':Env),(∀(k:Nat) (o:Oper),r[k]?=some o->o.dst=some s->X (i+k)=Y (i+k))->E s=E' s->eXr X i E r fs s=eXr Y i E' r fs s
 | [],fs,i,E,E',_,he=>by simp only[eXr];exact he
 | o :: r,[],i,E,E',_,he=>by simp only[eXr];exact he
 | o :: r,f :: fs,i,E,E',h,he=>by
  simp only[eXr];refine Zfn r fs (i+1) _ _ (λk o' hk hd=>by rw[show i+1+k=i+(k+1) from by omega];exact h (k+1) o' (by simpa using hk) hd) ?_;by_cases hd:o.dst=some s
  ·have:=h 0 o rfl hd;rw[Nat.add_zero] at this;rw[this];cases Y i with
   | true=>simp only[cond_true];rw[hd,ZoE,ZoE]
   | false=>exact he
  ·have e1:∀(b:Bool) (E:Env),(bif b then ZgD E o.dst f.d else E) s=E s:=λb E=>by cases b with | true=>exact Zyj hd | false=>rfl
   rw[e1,e1];exact he
theorem ZxE {X:Nat->Bool} {s:Nat}:∀(r:List Oper) (fs:List Fact) (i:Nat) (E:Env) (k:Nat) (o:Oper) (f:Fact),r[k]?=some o->fs[k]?=some f->o.dst=some s->X (i+k)=true->(∀(m:Nat) (o':Oper),k < m->r[m]?=some o'->o'.dst=some s->X (i+m)=false)->eXr X i E r fs s=f.d
 | [],fs,i,E,k,o,f,h,_,_,_,_=>by simp at h
 | o :: r,[],i,E,k,o',f,_,h,_,_,_=>by simp at h
 | o :: r,f :: fs,i,E,0,o',f',h,hf,hd,hX,hn=>by
  simp at h hf;subst h;subst hf;rw[Nat.add_zero] at hX;simp only[eXr,hX,cond_true];rw[Zfn (Y:=λ_=>false) r fs (i+1) _ (ZgD E o.dst f.d) (λm o' hm hd'=>by rw[show i+1+m=i+(m+1) from by omega];exact hn (m+1) o' (by omega) (by simpa using hm) hd') rfl];have key:∀(r:List Oper) (fs:List Fact) (i:Nat) (E:Env),eXr (λ_=>false) i E r fs=E:=by
   intro r
   induction r with
   | nil=>intro fs i E;rfl
   | cons o r ih =>
    intro fs i E;cases fs with
    | nil=>rfl
    | cons f fs=>simp only[eXr,cond_false];exact ih fs (i+1) E
  rw[key,hd,ZoE]
 | o :: r,f :: fs,i,E,k+1,o',f',h,hf,hd,hX,hn=>by simp only[eXr];exact ZxE r fs (i+1) _ k o' f' (by simpa using h) (by simpa using hf) hd (by rw[show i+1+k=i+(k+1) from by omega];exact hX) (λm o'' hm h2 hd'=>by rw[show i+1+m=i+(m+1) from by omega];exact hn (m+1) o'' (by omega) (by simpa using h2) hd')
theorem ZiR:∀(r:List Oper) (fs:List Fact) (i j:Nat) (E:Env),fs.length=r.length->foldE E (r.take i) (fs.take i)=eXr (λk=>decide (k < j+i)) j E r fs
 | [],fs,i,j,E,_=>by simp[foldE,eXr]
 | o :: r,[],i,j,E,h=>by simp at h
 | o :: r,f :: fs,0,j,E,h=>by
  have key:∀(r:List Oper) (fs:List Fact) (i:Nat) (E:Env),j<=i->eXr (λk=>decide (k < j+0)) i E r fs=E:=by
   intro r
   induction r with
   | nil=>intro fs i E _;rfl
   | cons o r ih =>
    intro fs i E hi;cases fs with
    | nil=>rfl
    | cons f fs=>simp only[eXr];rw[show decide (i < j+0)=false from by simp;omega];exact ih fs (i+1) E (by omega)
  rw[key _ _ _ _ (Yax _)];simp[foldE]
 | o :: r,f :: fs,i+1,j,E,h=>by simp only[List.take_succ_cons,foldE,eXr];rw[show decide (j < j+(i+1))=true from decide_eq_true (by omega),ZiR r fs i (j+1) _ (by simpa using h)];simp only[cond_true];rw[show j+1+i=j+(i+1) from by omega]
end
theorem Zof:∀(l:List Oper),(Zax l).length=l.length:=by
 intro l;have key:∀(l:List Oper) (acc:List Nat),(l.foldl (λacc o=>acc++[ZaI acc (Zab o)]) acc).length=acc.length+l.length:=by
  intro l
  induction l with
  | nil=>intro acc;rfl
  | cons o l ih=>intro acc;rw[List.foldl_cons,ih];simp;omega
 have:=key l [];simpa [Zax] using this
theorem ZvF {α:Type} {Q:List α->Prop} (h0:Q []) (h1:∀l a,Q l->Q (l++[a])):∀l,Q l:=by
 have:∀l:List α,Q l.reverse:=by
  intro l
  induction l with
  | nil=>exact h0
  | cons a l ih=>rw[List.reverse_cons];exact h1 _ _ ih
 intro l;have:=this l.reverse;rwa [List.reverse_reverse] at this
theorem ZfH {X:Nat->Bool}:∀(l:List Oper),(∀(i:Nat) (o:Oper),l[i]?=some o->X i=true->∀e∈Zab o,X e=true)->(∀(i:Nat) (o:Oper),l[i]?=some o->∀e∈Zab o,e < i) ->
  (∀k,k < l.length->X k=true->∀j,Nat.testBit (Zd0 0 (Zax l) k) j=true->X j=true)/\∀es:List Nat,(∀e∈es,X e=true)->(∀e∈es,e < l.length)->∀j,Nat.testBit (ZaI (Zax l) es) j=true->X j=true:=by
 refine ZvF ?_ ?_
 ·intro _ _;refine ⟨λk hk=>by simp at hk,λes he hl j hj=>?_⟩;cases es with
  | nil=>simp[ZaI] at hj
  | cons e es=>have:=hl e Yac;simp at this
 ·intro l o ih hX hE;have hX':∀(i:Nat) (o:Oper),l[i]?=some o->X i=true->∀e∈Zab o,X e=true:=λi o hi=>hX i o (by rw[Yaj (Yaa.1 hi).1];exact hi);have hE':∀(i:Nat) (o:Oper),l[i]?=some o->∀e∈Zab o,e < i:=λi o hi=>hE i o (by rw[Yaj (Yaa.1 hi).1];exact hi);obtain ⟨h1,h2⟩:=ih hX' hE';have hlast:(l++[o])[l.length]?=some o:=by simp
  have rows:∀k,k < (l++[o]).length->X k=true->∀j,Nat.testBit (Zd0 0 (Zax (l++[o])) k) j=true->X j=true:=by
   intro k hk hXk j hj;rw[ZfQ] at hj;by_cases hkl:k < l.length
   ·rw[ZgX (by rw[Zof];exact hkl)] at hj;exact h1 k hkl hXk j hj
   ·have hk2:k=l.length:=by simp at hk;omega
    subst hk2;have:Zd0 0 (Zax l++[ZaI (Zax l) (Zab o)]) l.length=ZaI (Zax l) (Zab o):=by have:=ZgW (z:=0) (l:=Zax l) (a:=ZaI (Zax l) (Zab o)) (m:=[]);rwa [Zof] at this
    rw[this] at hj;exact h2 _ (hX _ _ hlast hXk) (hE _ _ hlast) j hj
  refine ⟨rows,λes=>?_⟩
  induction es with
  | nil=>intro _ _ j hj;simp[ZaI] at hj
  | cons e es ihe =>
   intro he hl j hj;simp only[ZaI,Nat.testBit_or,YaV] at hj;rcases hj with (hj | hj) | hj
   ·rw[Nat.testBit_two_pow] at hj;have:e=j:=by simpa using hj
    subst this;exact he e Yac
   ·exact rows e (hl e Yac) (he e Yac) j hj
   ·exact ihe (λe h=>he e (Yad _ h)) (λe h=>hl e (Yad _ h)) j hj
theorem ZtI [CA] {lt:Option Nat} {all:Array Oper} {row:Nat} {o:Oper}:∀(l:List Oper) (j:Nat),ZAz lt all row o j l=true->∀(k:Nat) (p:Oper),l[k]?=some p->Zdk lt all o p=true->Nat.testBit row (j+k)=true
 | [],_,_,k,p,h,_=>by simp at h
 | q :: l,j,h,0,p,hk,hc=>by
  simp at hk;subst hk;simp only[ZAz,Yaf,YaV,YaN] at h;rcases h.1 with h1 | h1
  ·rw[hc] at h1;cases h1
  ·exact h1
 | q :: l,j,h,k+1,p,hk,hc=>by simp only[ZAz,Yaf] at h;have:=ZtI l (j+1) h.2 k p (by simpa using hk) hc;rwa [show j+1+k=j+(k+1) from by omega] at this
theorem ZhR [CA] {lt:Option Nat} {all:Array Oper}:∀(r pre:List Oper),Zfo lt all r pre (Zax pre)=true->∀(i:Nat) (o:Oper),r[i]?=some o ->
  (∀e∈Zab o,e < pre.length+i)/\∀(k:Nat) (p:Oper),(pre++r.take i)[k]?=some p->Zdk lt all o p=true->Nat.testBit (ZaI (Zax (pre++r.take i)) (Zab o)) k=true
 | [],_,_,i,o,h=>by simp at h
 | o :: r,pre,h,0,o',hi=>by simp at hi;subst hi;simp only[Zfo,Yaf] at h;refine ⟨λe he=>by simpa using ZcT h.1.1 e he,λk p hk hc=>?_⟩;have:=ZtI pre 0 h.1.2 k p (by simpa using hk) hc;simpa using this
 | o :: r,pre,h,i+1,o',hi=>by simp only[Zfo,Yaf] at h;have h2:=h.2;rw[<- ZfQ] at h2;obtain ⟨h3,h4⟩:=ZhR r (pre++[o]) h2 i o' (by simpa using hi);refine ⟨λe he=>by have:=h3 e he;simp at this;omega,λk p hk hc=>?_⟩;have:=h4 k p (by simpa [List.append_assoc] using hk) hc;simpa [List.append_assoc] using this
theorem confl_symm_reads [CA] {lt:Option Nat} {all:Array Oper} {o p:Oper} (h:Zdk lt all o p=false):(∀d,o.dst=some d->d ∉ p.looksAt all)/\(∀d,p.dst=some d->d ∉ o.looksAt all)/\(∀d,o.dst=some d->p.dst≠some d)/\((Zdl o.op && Zdl p.op)=false)/\(ZlD lt o.op=true->ZzT lt p=true)/\(ZlD lt p.op=true->ZzT lt o=true):=by
 unfold Zdk at h;simp only[YbY] at h;obtain ⟨⟨⟨⟨h1,h2⟩,h3⟩,h4⟩,h5⟩:=h;refine ⟨λd hd hm=>?_,λd hd hm=>?_,λd hd hm=>?_,h3,λhm=>?_,λhm=>?_⟩
 ·rw[hd] at h1;simp only[YbY] at h1;rw[ZbY.2 hm] at h1;exact absurd h1.1 (by simp)
 ·rw[hd] at h2;simp only at h2;rw[ZbY.2 hm] at h2;cases h2
 ·rw[hd] at h1;simp only[YbY] at h1;rw[hm] at h1;simp only[YaO] at h1;exact absurd h1.2 (by simp)
 ·rw[hm] at h4;simpa using h4
 ·rw[hm] at h5;simpa using h5
theorem Zck [CA] (l:List Oper) (k:Nat) (o:Oper) (h:l[k]?=some o):ZaX (l.take (k+1))=bif Zdl o.op then ZaX (l.take k)+1 else ZaX (l.take k):=by
 have:l.take (k+1)=l.take k++[o]:=by rw[List.take_add_one,h];rfl
 rw[this,ZcQ]
theorem RelD.drew {C:Ctx} {h:Zad} {β:Nat->Value} {V:Nat->Prop} {w:World} (hr:RelD C h β V w) (k:Nat):RelD C h β V { w with drawn:=k }:=by have mv:ZaB V w V { w with drawn:=k }:=λk hk=>⟨hk,rfl⟩;refine ⟨λi o hi=>(hr.obj i o hi).keep (LeH.refl _ _) mv rfl (λ_ _=>rfl),hr.sep,hr.mine,hr.vout,hr.vlt,hr.vin,hr.vnew,⟨hr.fr.os,hr.fr.tape,hr.fr.output,hr.fr.size,hr.fr.block⟩,hr.gl.move mv⟩
section
variable {P:Program} {T:Tab} {F:FuncId->Bool} {C:Ctx} {n:Nat}
theorem ZfL {p q:Nat->Bool} {i:Nat}:∀(l:List Nat),l.Nodup->i∈l->p i=true->q i=false->(∀j,j≠i->p j=q j)->l.countP q+1=l.countP p
 | [],_,h,_,_,_=>by simp at h
 | a :: l,hn,hm,hp,hq,hj=>by
  have hn':=List.nodup_cons.1 hn;by_cases ha:a=i
  ·subst ha;have:l.countP q=l.countP p:=List.countP_congr (λj hjl=>by rw[hj j (λe=>hn'.1 (e▸hjl))]);rw[Ycc,Ycc,hp,hq,this];simp
  ·have hm':i∈l:=by rcases Yav.1 hm with h | h;exact absurd h.symm ha;exact h
   have:=ZfL l hn'.2 hm' hp hq hj;rw[Ycc,Ycc,hj a ha];omega
theorem ZaJ {l:Array Bool} {i j:Nat} (hi:i < l.size) (z:Bool):(l.setIfInBounds i true).getD j z=if j=i then true else l.getD j z:=by
 simp only[Yat,Ybl];by_cases h:i=j
 ·subst h;simp[hi]
 ·rw[if_neg h,if_neg (λe=>h e.symm)]
theorem ZjG:∀(x y:List Oper) (fx fy:List Fact) (E:Env),fx.length=x.length->foldE E (x++y) (fx++fy)=foldE (foldE E x fx) y fy
 | [],y,fx,fy,E,h=>by cases fx with | nil=>rfl | cons=>simp at h
 | o :: x,y,[],fy,E,h=>by simp at h
 | o :: x,y,f :: fx,fy,E,h=>by simp only[List.cons_append,foldE];exact ZjG x y fx fy _ (by simpa using h)
def ZrB (env:Env) (o:Oper):Fact:=⟨match o.dst with | some s=>env s | none=>.any,env,true,false,false⟩
theorem ZfK (env:Env):∀(l:List Oper),foldE env l (l.map (ZrB env))=env
 | []=>rfl
 | o :: l=>by
  simp only[Yar,foldE];have:ZgD env o.dst (ZrB env o).d=env:=by
   funext s;unfold ZrB;cases hd:o.dst with
   | none=>rfl
   | some i =>
    simp only[ZgD,Env.set];by_cases hs:s=i
    ·subst hs;rw[YaO];rfl
    ·rw[ZcR hs];rfl
  rw[this,ZfK env l]
theorem Zqa {α:Type} {z a:α}:∀{m:Nat} {l:List α} {j:Nat},j < m->Zd0 z (List.replicate m a++l) j=a
 | 0,_,_,h=>by omega
 | m+1,l,0,_=>rfl
 | m+1,l,j+1,h=>by rw[List.replicate_succ,List.cons_append];exact Zqa (by omega)
def ZpA [CA] (T:Tab) (L:List Oper) (lo:Nat) (X:Nat->Bool) (C:Ctx) (h:Zad) (β:Nat->Value) (V:Nat->Prop) (tm:Array Value) (w:World):Prop :=
 ∃γ:Nat->Nat,(∀(k:Nat) (o:Oper),L[k]?=some o->lo<=k->Zka o=true->X k=true->∃s t i,o.dst=some s/\o.op=.alloc t/\T t=some i/\tm.getD s undef=.pointer (some ⟨γ k,0,none⟩)/\w.heap[γ k]?=some (.cells i.zero.toArray t (0,0))/\¬V (γ k)/\(C.w0.heap.size<=γ k\/C.own (γ k)) /\
   ∀(i':Nat) (o':Obj),h[i']?=some o'->o'.live=true->¬Bk o' (β i') (γ k)) /\
  (∀(k k':Nat) (o o':Oper),L[k]?=some o->L[k']?=some o'->lo<=k->lo<=k'->Zka o=true->Zka o'=true->X k=true->X k'=true->γ k=γ k'->k=k')
theorem Zix:∀{l:List Oper} {s c:Nat},ZsN l s c=true->(c=0->∀(i j:Nat) (o p:Oper),l[i]?=some o->l[j]?=some p->o.dst=some s->p.dst=some s->i=j)/\(c=1->∀(i:Nat) (o:Oper),l[i]?=some o->o.dst≠some s)/\c<=1
 | [],s,c,h=>by simp only[ZsN] at h;have:=Yap h;exact ⟨λh=>(by omega),λ_ i o hi=>(by simp at hi),by omega⟩
 | o :: l,s,c,h=>by
  simp only[ZsN] at h;cases hd:o.dst with
  | none =>
   rw[hd] at h;simp only at h;obtain ⟨h0,h1,h2⟩:=Zix h;refine ⟨λhc i j a b ha hb ea eb=>?_,λhc i a ha ea=>?_,h2⟩
   ·cases i with
    | zero=>simp at ha;subst ha;rw[hd] at ea;cases ea
    | succ i=>cases j with
     | zero=>simp at hb;subst hb;rw[hd] at eb;cases eb
     | succ j=>rw[h0 hc i j a b (by simpa using ha) (by simpa using hb) ea eb]
   ·cases i with
    | zero=>simp at ha;subst ha;rw[hd] at ea;cases ea
    | succ i=>exact h1 hc i a (by simpa using ha) ea
  | some d =>
   rw[hd] at h;simp only at h;cases hb:Nat.beq d s with
   | false =>
    rw[hb] at h;simp only[cond_false] at h;have hne:d≠s:=λe=>by subst e;rw[YaO] at hb;cases hb
    obtain ⟨h0,h1,h2⟩:=Zix h;refine ⟨λhc i j a b ha hb ea eb=>?_,λhc i a ha ea=>?_,h2⟩
    ·cases i with
     | zero=>simp at ha;subst ha;rw[hd] at ea;injection ea with ea;exact absurd ea hne
     | succ i=>cases j with
      | zero=>simp at hb;subst hb;rw[hd] at eb;injection eb with eb;exact absurd eb hne
      | succ j=>rw[h0 hc i j a b (by simpa using ha) (by simpa using hb) ea eb]
    ·cases i with
     | zero=>simp at ha;subst ha;rw[hd] at ea;injection ea with ea;exact absurd ea hne
     | succ i=>exact h1 hc i a (by simpa using ha) ea
   | true =>
    rw[hb] at h;simp only[cond_true] at h;obtain ⟨h0,h1,h2⟩:=Zix h;refine ⟨λhc i j a b ha hb ea eb=>?_,λhc=>(by omega),by omega⟩;have h1':=h1 (by omega);cases i with
    | zero=>cases j with
     | zero=>rfl
     | succ j=>exact absurd eb (h1' j b (by simpa using hb))
    | succ i=>exact absurd ea (h1' i a (by simpa using ha))
theorem Zzk {ops:Array Oper} {s:Nat} (h:ZBG ops (some s)=true) {i j:Nat} {o p:Oper} (hi:ops.toList[i]?=some o) (hj:ops.toList[j]?=some p) (ho:o.dst=some s) (hp:p.dst=some s):i=j :=
 (Zix (s:=s) (c:=0) h).1 rfl i j o p hi hj ho hp
theorem Ztn {C:Ctx} {h:Zad} {β:Nat->Value} {V:Nat->Prop} {w w':World} (hr:RelD C h β V w) (hf:Fr (λ_=>False) w w'):RelD C h β V w'/\ZaB V w V w':=by
 have hm:ZaB V w V w':=λk hk=>⟨hk,hf.block k (hr.vlt k hk) (λh=>h)⟩;refine ⟨⟨λi o hi=>?_,hr.sep,hr.mine,hr.vout,λk hk=>Ya2 (hr.vlt k hk) hf.size,hr.vin,hr.vnew,?_,hr.gl.move hm⟩,hm⟩
 ·cases hlv:o.live with
  | false=>cases o<;>simp_all [Obj.live,Zcb]
  | true=>exact (hr.obj i o hi).keep (LeH.refl h β) hm rfl (λk hk=>hf.block k (hr.lt hi hlv hk) (λh=>h))
 ·refine ⟨hf.os.trans hr.fr.os,hf.tape.trans hr.fr.tape,hf.output.trans hr.fr.output,YaB hr.fr.size hf.size,λk hk hn=>?_⟩;rw[hf.block k (Ya2 hk hr.fr.size) (λh=>h)];exact hr.fr.block k hk hn
theorem ZpA.step [CA] {T:Tab} {L:List Oper} {lo:Nat} {X X':Nat->Bool} {C:Ctx} {h h':Zad} {β β':Nat->Value} {V V':Nat->Prop} {tm tm':Array Value} {w w':World} (hp:ZpA T L lo X C h β V tm w) (_hr:RelD C h β V w)
  (hr':RelD ⟨w,λk=>∃i o,h[i]?=some o/\o.live=true/\Bk o (β i) k,V,C.G⟩ h' β' V' w')
  (hX:∀(k:Nat) (o:Oper),L[k]?=some o->lo<=k->Zka o=true->X' k=true->X k=true)
  (htm:∀(k:Nat) (o:Oper) (s:Nat),L[k]?=some o->lo<=k->Zka o=true->X' k=true->o.dst=some s->tm'.getD s undef=tm.getD s undef):ZpA T L lo X' C h' β' V' tm' w':=by
 obtain ⟨γ,h1,h2⟩:=hp;refine ⟨γ,λk o hk hlo hf hx=>?_,λk k' o o' a1 a2 a3 a4 a5 a6 a7 a8=>h2 k k' o o' a1 a2 a3 a4 a5 a6 (hX k o a1 a3 a5 a7) (hX k' o' a2 a4 a6 a8)⟩;obtain ⟨s,t,i,e1,e2,e3,e4,e5,e6,e7,e8⟩:=h1 k o hk hlo hf (hX k o hk hlo hf hx);have hlt:γ k < w.heap.size:=(Ya1.1 e5).1;have hno:¬∃i o,h[i]?=some o/\o.live=true/\Bk o (β i) (γ k):=λ⟨i',o',q1,q2,q3⟩=>e8 i' o' q1 q2 q3;refine ⟨s,t,i,e1,e2,e3,(htm k o s hk hlo hf hx e1).trans e4,(hr'.fr.block _ hlt hno).trans e5,λhv=>?_,e7,λi' o' q1 q2 q3=>?_⟩
 ·rcases hr'.vnew _ hv with h3 | h3 | h3
  ·exact e6 h3
  ·exact absurd hlt (YbI.2 h3)
  ·exact hno h3
 ·rcases hr'.mine i' o' _ q1 q2 q3 with h3 | h3
  ·exact absurd hlt (YbI.2 h3)
  ·exact hno h3
theorem ZpA.kill [CA] {T:Tab} {L:List Oper} {lo:Nat} {X:Nat->Bool} {C:Ctx} {h:Zad} {β:Nat->Value} {V:Nat->Prop} {tm:Array Value} {w:World} (l:List Nat) (hp:ZpA T L lo X C h β V tm w):ZpA T L lo X C (ZbS h l) β (Zg3 h l β V) tm w:=by
 obtain ⟨γ,h1,h2⟩:=hp;refine ⟨γ,λk o hk hlo hf hx=>?_,h2⟩;obtain ⟨s,t,i,e1,e2,e3,e4,e5,e6,e7,e8⟩:=h1 k o hk hlo hf hx;refine ⟨s,t,i,e1,e2,e3,e4,e5,λhv=>?_,e7,λi' o' q1 q2 q3=>?_⟩
 ·rcases hv with hv | ⟨i',o',_,q1,q2,q3⟩
  ·exact e6 hv
  ·exact e8 i' o' q1 q2 q3
 ·rcases Zfg l h i' o' q1 with ⟨rfl,_⟩ | ⟨_,q1⟩
  ·cases q2
  ·exact e8 i' o' q1 q2 q3
mutual
theorem Zaa.unapp {h:Zad} {x:Obj} {β β1:Nat->Value} {V V1:Nat->Prop} {w w1:World}:∀(d:D) (v1 v:Value),Zaa h β1 V1 w1 d v1->Zaa (h++[x]) β V w d v->Zaa h β V w d v
 | .g x,v1,v,h1,hr=>by simp only[Zaa] at hr ⊢;exact hr
 | .pb p,v1,v,h1,hr=>by simp only[Zaa] at hr ⊢;exact hr
 | .pn p,v1,v,h1,hr=>by simp only[Zaa] at hr ⊢;exact hr
 | .nils,v1,v,h1,hr=>by simp only[Zaa] at hr ⊢;exact hr
 | .row i,v1,v,h1,hr=>by
  simp only[Zaa] at h1 hr ⊢;cases ho:h[i]? with
  | none=>rw[ho] at h1;exact h1.elim
  | some o=>rw[Yaj (Yaa.1 ho).1,ho] at hr;exact hr
 | .rs i lo n,v1,v,h1,hr=>by
  simp only[Zaa] at h1 hr ⊢;cases ho:h[i]? with
  | none=>rw[ho] at h1;exact h1.elim
  | some o=>rw[Yaj (Yaa.1 ho).1,ho] at hr;exact hr
 | .ptr i off,v1,v,h1,hr=>by
  simp only[Zaa] at h1 hr ⊢;cases ho:h[i]? with
  | none=>rw[ho] at h1;exact h1.elim
  | some o=>rw[Yaj (Yaa.1 ho).1,ho] at hr;exact hr
 | .el i j off,v1,v,h1,hr=>by
  simp only[Zaa] at h1 hr ⊢;cases ho:h[i]? with
  | none=>rw[ho] at h1;exact h1.elim
  | some o=>rw[Yaj (Yaa.1 ho).1,ho] at hr;exact hr
 | .fp r off,v1,v,h1,hr=>by simp only[Zaa] at hr ⊢;exact hr
 | .nilP,v1,v,h1,hr=>by simp only[Zaa] at hr ⊢;exact hr
 | .nilF,v1,v,h1,hr=>by simp only[Zaa] at hr ⊢;exact hr
 | .nilI,v1,v,h1,hr=>by simp only[Zaa] at hr ⊢;exact hr
 | .fn f fs cs,v1,v,h1,hr=>by simp only[Zaa] at h1 hr ⊢;obtain ⟨us1,ts1,_,a1,b1⟩:=h1;obtain ⟨us,ts,e,a,b⟩:=hr;exact ⟨us,ts,e,Zac.unapp fs us1 us a1 a,Zac.unapp cs ts1 ts b1 b⟩
 | .iface t x,v1,v,h1,hr=>by simp only[Zaa] at h1 hr ⊢;obtain ⟨u1,_,a1⟩:=h1;obtain ⟨u,e,a⟩:=hr;exact ⟨u,e,Zaa.unapp x u1 u a1 a⟩
 | .agg cs,v1,v,h1,hr=>by simp only[Zaa] at h1 hr ⊢;obtain ⟨us1,_,a1⟩:=h1;obtain ⟨us,e,a⟩:=hr;exact ⟨us,e,Zac.unapp cs us1 us a1 a⟩
 | .tuple cs,v1,v,h1,hr=>by simp only[Zaa] at h1 hr ⊢;obtain ⟨us1,_,a1⟩:=h1;obtain ⟨us,e,a⟩:=hr;exact ⟨us,e,Zac.unapp cs us1 us a1 a⟩
 | .any,v1,v,h1,hr=>by simp only[Zaa]
theorem Zac.unapp {h:Zad} {x:Obj} {β β1:Nat->Value} {V V1:Nat->Prop} {w w1:World}:∀(ds:List D) (vs1 vs:List Value),Zac h β1 V1 w1 ds vs1->Zac (h++[x]) β V w ds vs->Zac h β V w ds vs
 | [],_,_,_,hr=>by simp only[Zac] at hr ⊢;exact hr
 | d :: ds,vs1,vs,h1,hr=>by simp only[Zac] at h1 hr ⊢;obtain ⟨v1,us1,_,a1,b1⟩:=h1;obtain ⟨v,us,e,a,b⟩:=hr;exact ⟨v,us,e,Zaa.unapp d v1 v a1 a,Zac.unapp ds us1 us b1 b⟩
end
theorem RelD.unapp {C C1:Ctx} {h:Zad} {x:Obj} {β β1:Nat->Value} {V V1:Nat->Prop} {w w1:World} (h1:RelD C1 h β1 V1 w1) (hr:RelD C (h++[x]) β V w):RelD C h β V w:=by
 have up:∀{i:Nat} {o:Obj},h[i]?=some o->(h++[x])[i]?=some o:=fun {i o} hi=>by rw[Yaj (Yaa.1 hi).1];exact hi
 refine ⟨λi o hi=>?_,λi j o o' k a b c d=>hr.sep i j o o' k (up a) b (up c) d,λi o k a=>hr.mine i o k (up a),λi o k a=>hr.vout i o k (up a),hr.vlt,hr.vin,hr.vnew,hr.fr,hr.gl⟩;have a:=h1.obj i o hi;have b:=hr.obj i o (up hi);cases o with
 | blk cs t =>obtain ⟨_,vs1,_,_,c1⟩:=a;obtain ⟨g,vs,e1,e2,c2⟩:=b;exact ⟨g,vs,e1,e2,Zac.unapp cs vs1 vs c1 c2⟩
 | row xs e sz=>exact b
 | many l ts =>obtain ⟨b1,b2,b3⟩:=b;refine ⟨b1,b2,λt ht=>?_⟩;obtain ⟨o1,q1,_⟩:=a.2.2 t ht;obtain ⟨o2,q2,q3⟩:=b3 t ht;rw[up q1] at q2;injection q2 with e;subst e;exact ⟨o1,q1,q3⟩
 | dead=>trivial
theorem ZrS (h:Zad) (o:Obj):ZbS (h++[o]) [h.length]=h++[.dead]:=by simp[ZbS]
theorem LeH.unapp {h h':Zad} {x:Obj} {β β':Nat->Value} (hl:h'.length=h.length) (hle:LeH h β (h'++[x]) β'):LeH h β h' β':=λi o hi=>by obtain ⟨o',a,b,c⟩:=hle i o hi;rw[Yaj (by rw[hl];exact (Yaa.1 hi).1)] at a;exact ⟨o',a,b,c⟩
theorem ZpA.unapp [CA] {T:Tab} {L:List Oper} {lo:Nat} {X:Nat->Bool} {C:Ctx} {h:Zad} {x:Obj} {β:Nat->Value} {V:Nat->Prop} {tm:Array Value} {w:World} (hp:ZpA T L lo X C (h++[x]) β V tm w):ZpA T L lo X C h β V tm w:=by obtain ⟨γ,h1,h2⟩:=hp;refine ⟨γ,λk o hk hlo hf hx=>?_,h2⟩;obtain ⟨s,t,i,e1,e2,e3,e4,e5,e6,e7,e8⟩:=h1 k o hk hlo hf hx;exact ⟨s,t,i,e1,e2,e3,e4,e5,e6,e7,λi' o' q1 q2 q3=>e8 i' o' (by rw[Yaj (Yaa.1 q1).1];exact q1) q2 q3⟩
def ZCJ [CA] (C:Ctx) (n:Nat) (T:Tab) (L:List Oper) (lo:Nat) (st:St) (a:Act) (w:World):Prop :=
 a.tmps.size=n/\a.defers=st.df/\∃β V,RelD C st.h β V w/\ZbO st β V w a/\ZpA T L lo (λ_=>true) C st.h β V a.tmps w
def Zhh [CA] (T:Tab) (K:St->Prop) (l:List Oper):St->Prop :=
 List.rec (motive:=λ_=>St->Prop) K (λo _ next st=>bif Zka o then (match o.op,o.dst,st with
  | .alloc t,some s,⟨env,h,df⟩=>match T t with
   | some i=>next ⟨env.set s (.ptr h.length 0),h++[.blk (i.zero.map of1) t],df⟩
   | none=>False
  | _,_,_=>False) else next st) l
theorem ZfE {h:Zad} {o:Obj} {i:Nat} {o':Obj} (hi:(h++[o])[i]?=some o'):(i=h.length/\o'=o)\/(i < h.length/\h[i]?=some o'):=by
 by_cases hl:i < h.length
 ·rw[Yaj hl] at hi;exact .inr ⟨hl,hi⟩
 ·rw[Yak (by omega)] at hi;have:i - h.length=0:=by have:=(Yaa.1 hi).1;simp at this;omega
  rw[this] at hi;simp at hi;exact .inl ⟨by omega,hi.symm⟩
theorem RelD.adopt {C:Ctx} {h:Zad} {β:Nat->Value} {V:Nat->Prop} {w:World} (hr:RelD C h β V w) {g:Nat} {t:TypeId} {vs:List Value} {ds:List D} (hg:w.heap[g]?=some (.cells ⟨vs⟩ t (0,0))) (hd:Zac h β V w ds vs) (hv:¬V g) (hm:C.w0.heap.size<=g\/C.own g)
  (hu:∀(i:Nat) (o:Obj),h[i]?=some o->o.live=true->¬Bk o (β i) g):RelD C (h++[.blk ds t]) (upf β h.length (.pointer (some ⟨g,0,none⟩))) V w:=by
 have le:=Zdo h β (.blk ds t) (.pointer (some ⟨g,0,none⟩));have bg:∀k,Bk (.blk ds t) (upf β h.length (.pointer (some ⟨g,0,none⟩)) h.length) k->k=g:=λk hk=>by rw[Zbt] at hk;simp only[Bk,bk,Ybj] at hk;exact hk.symm
 refine ⟨λj o hj=>?_,λj1 j2 o1 o2 k h1 l1 h2 l2 k1 k2=>?_,λj o k hj hl hk=>?_,λj o k hj hl hk=>?_,hr.vlt,hr.vin,hr.vnew,hr.fr,hr.gl⟩
 ·rcases ZfE hj with ⟨rfl,rfl⟩ | ⟨hl,hj⟩
  ·exact ⟨g,vs,Zbt _ _ _,hg,Zac.mono le (ZaB.refl _ _) _ _ hd⟩
  ·cases hlv:o.live with
   | false=>cases o<;>simp_all [Obj.live,Zcb]
   | true=>exact (hr.obj j o hj).keep le (ZaB.refl V w) (Zdq (by omega)) (λ_ _=>rfl)
 ·rcases ZfE h1 with ⟨rfl,rfl⟩ | ⟨a1,h1⟩<;>rcases ZfE h2 with ⟨rfl,rfl⟩ | ⟨a2,h2⟩
  ·rfl
  ·have:=bg k k1;subst this;rw[Zdq (by omega)] at k2;exact absurd k2 (hu j2 o2 h2 l2)
  ·have:=bg k k2;subst this;rw[Zdq (by omega)] at k1;exact absurd k1 (hu j1 o1 h1 l1)
  ·rw[Zdq (by omega)] at k1 k2;exact hr.sep j1 j2 o1 o2 k h1 l1 h2 l2 k1 k2
 ·rcases ZfE hj with ⟨rfl,rfl⟩ | ⟨a1,hj⟩
  ·rw[bg k hk];exact hm
  ·rw[Zdq (by omega)] at hk;exact hr.mine j o k hj hl hk
 ·rcases ZfE hj with ⟨rfl,rfl⟩ | ⟨a1,hj⟩
  ·rw[bg k hk];exact hv
  ·rw[Zdq (by omega)] at hk;exact hr.vout j o k hj hl hk
theorem Zct [CA] {C:Ctx} {n:Nat} {T:Tab} {L:List Oper} {a:Act} {w:World} {K:St->Prop}:∀(l:List Oper) (p:Nat),L.drop p=l->∀st:St,ZCJ C n T L p st a w->Zhh T K l st->∃st1,Rel C n st1 a w/\K st1
 | [],p,_,st,⟨h1,h2,β,V,h3,h4,_⟩,hk=>⟨st,⟨h1,h2,β,V,h3,h4⟩,hk⟩
 | o :: l,p,hL,st,⟨h1,h2,β,V,h3,h4,h5⟩,hk=>by
  have hp:L[p]?=some o:=by have:=congrArg (λl=>l[0]?) hL;simpa using this
  have hL':L.drop (p+1)=l:=by have:=congrArg List.tail hL;simpa using this
  have less:∀{h:Zad} {β:Nat->Value},ZpA T L p (λ_=>true) C h β V a.tmps w->ZpA T L (p+1) (λ_=>true) C h β V a.tmps w:=λ⟨γ,q1,q2⟩ =>
   ⟨γ,λk o hk hlo hf hx=>q1 k o hk (by omega) hf hx,λk k' o o' a1 a2 a3 a4 a5 a6 a7 a8=>q2 k k' o o' a1 a2 (by omega) (by omega) a5 a6 a7 a8⟩
  cases hfl:Zka o with
  | false =>
   have hk':Zhh T K l st:=by simp only[Zhh,hfl,cond_false] at hk;exact hk
   exact Zct l (p+1) hL' st ⟨h1,h2,β,V,h3,h4,less h5⟩ hk'
  | true =>
   obtain ⟨γ,q1,q2⟩:=h5;obtain ⟨s,t,i,e1,e2,e3,e4,e5,e6,e7,e8⟩:=q1 p o hp (Yax _) hfl rfl;have hr':=h3.adopt (g:=γ p) (vs:=i.zero) (ds:=i.zero.map of1) e5 (Zfc _) e6 e7 e8;have hk':Zhh T K l ⟨st.env.set s (.ptr st.h.length 0),st.h++[.blk (i.zero.map of1) t],st.df⟩:=by simp only[Zhh,hfl,cond_true,e1,e2,e3] at hk;exact hk
   refine Zct l (p+1) hL' ⟨st.env.set s (.ptr st.h.length 0),st.h++[.blk (i.zero.map of1) t],st.df⟩ ⟨h1,h2,_,V,hr',λk=>?_,⟨γ,λk o' hk hlo hf hx=>?_,λk k' o o' a1 a2 a3 a4 a5 a6 a7 a8=>q2 k k' o o' a1 a2 (by omega) (by omega) a5 a6 a7 a8⟩⟩ hk'
   ·show Zaa _ _ V w (Env.set st.env s (.ptr st.h.length 0) k) _;simp only[Env.set];by_cases hks:k=s
    ·subst hks;rw[YaO,e4];simp only[cond_true,Zaa];rw[Yak (Yax _)];simp only[Ybk,List.getElem?_cons_zero];exact ⟨γ p,Zbt _ _ _,rfl⟩
    ·rw[ZcR hks];exact Zaa.mono (Zdo _ _ _ _) (ZaB.refl V w) _ _ (h4 k)
   ·obtain ⟨s',t',i',f1,f2,f3,f4,f5,f6,f7,f8⟩:=q1 k o' hk (by omega) hf rfl;refine ⟨s',t',i',f1,f2,f3,f4,f5,f6,f7,λj oj hj hl hb=>?_⟩;rcases ZfE hj with ⟨rfl,rfl⟩ | ⟨a1,hj⟩
    ·rw[Zbt] at hb;simp only[Bk,bk,Ybj] at hb;have:=q2 p k o o' hp hk (Yax _) (by omega) hfl hf rfl rfl hb;omega
    ·rw[Zdq (by omega)] at hb;exact f8 j oj hj hl hb
set_option maxHeartbeats 1600000 in
theorem Zjf [CA] (hT:TabOk P T) (hF:∀g,F g=true->fnOk P g=true) {id:Nat} {ops:Array Oper} (S:List Nat) (hs:∀k∈ZbC (.region id ops true),k < n) (hm:∀k∈ZbC (.region id ops true),inL S k=true) {pp:Option Nat} {Qp:D->Prop} {post:Exit->Act->World->Prop} {a:Act}
  (hat0:∀(i:Nat) (o:Oper),ops.toList[i]?=some o->(∀e∈Zab o,e < i)/\∀(k:Nat) (p:Oper),(ops.toList.take i)[k]?=some p->Zdk pp ops o p=true->Nat.testBit (ZaI (Zax (ops.toList.take i)) (Zab o)) k=true)
  (pre r tail:List Oper) (hL:ops.toList=(pre++r)++tail) {env:Env} {hh:Zad} {df:List Deferred} {K:St->Prop} (hv:Zmq P T F C.G pp Qp ops r pre (Zax pre) (List.replicate (ZaX pre+1) hh) env df [] K)
  (hsyn:∀(o:Oper),ops.toList[(pre++r).length]?=some o->∀j,j < (pre++r).length->Nat.testBit (ZaI (Zax (ops.toList.take (pre++r).length)) (Zab o)) j=true)
  (hbar:∀(i:Nat) (o:Oper),ops.toList[i]?=some o->(pre++r).length < i->Nat.testBit (ZaI (Zax (ops.toList.take i)) (Zab o)) (pre++r).length=true)
  (hpan:∀(dp:D) (e:Env) (h':Zad) (ch:List PanicEntry) (a':Act) (w':World),Qp dp->XOk (.panic ch) (.pan dp) ⟨e,h',df⟩ a' w' C n->Keeps S a a'->post (.panic ch) a' w')
  (hcont:∀(fuel:Nat) (listed:Array Bool) (a':Act) (w':World) (st:St),K st->ZCJ C n T (pre++r) pre.length st a' w'->Keeps S a a'->listed.size=ops.size->(∀i,listed.getD i false=decide (i < (pre++r).length))->(List.range ops.size).countP (λi=>!listed.getD i false)<=fuel->wpAny P .any ops post fuel listed a' w') :
  ∀(fuel:Nat) (listed:Array Bool) (a':Act) (w':World),listed.size=ops.size->(List.range ops.size).countP (λi=>!listed.getD i false)<=fuel->(∀i,listed.getD i false=decide (i < pre.length))->Rel C n ⟨env,hh,df⟩ a' w'->Keeps S a a'->wpAny P .any ops post fuel listed a' w':=by
 obtain ⟨fs0,hs',Lf,hfl0,hLf,hQf,hfact0⟩:=Zri r pre (List.replicate (ZaX pre+1) hh) env env df [] K hv (Ref.refl env) (by simp);generalize hH:Zd0 ([]:Zad) (List.replicate (ZaX pre+1) hh++hs')=H at hQf hfact0;have hHc:∀j,j<=ZaX pre->H j=hh:=λj hj=>by rw[<- hH];exact Zqa (by omega)
 generalize hLe:pre++r=L at *;have hlo:pre.length<=L.length:=by rw[<- hLe];simp
 generalize hfe:pre.map (ZrB env)++fs0=fs;have hfl:fs.length=L.length:=by rw[<- hfe,<- hLe];simp[hfl0]
 have hLo:∀{i:Nat} {o:Oper},L[i]?=some o->ops.toList[i]?=some o:=fun {i o} h=>by rw[hL,Yaj (Yaa.1 h).1];exact h
 have hoL:∀{i:Nat} {o:Oper},i < L.length->ops.toList[i]?=some o->L[i]?=some o:=fun {i o} hi h=>by rwa [hL,Yaj hi] at h
 have htk:∀{i:Nat},i<=L.length->ops.toList.take i=L.take i:=fun {i} hi=>by rw[hL,Ya9 hi]
 have hat:∀(i:Nat) (o:Oper),L[i]?=some o->(∀e∈Zab o,e < i)/\∀(k:Nat) (p:Oper),(L.take i)[k]?=some p->Zdk pp ops o p=true->Nat.testBit (ZaI (Zax (L.take i)) (Zab o)) k=true:=λi o hi=>by have h1:=hat0 i o (hLo hi);rwa [htk (Nat.le_of_lt (Yaa.1 hi).1)] at h1
 have hprt:L.take pre.length=pre:=by rw[<- hLe];simp
 have hpft:fs.take pre.length=pre.map (ZrB env):=by rw[<- hfe];exact List.take_left' (by simp)
 have hfact:∀(i:Nat) (o:Oper) (f:Fact),L[i]?=some o->fs[i]?=some f->pre.length<=i ->
   FactAt pp P T F C.G Qp ops o f (foldE env (L.take i) (fs.take i)) H (ZaX (L.take i)) (Zpn (ZaI (Zax (L.take i)) (Zab o)) (L.take i)) df /\
   (f.dd=true->∃p,Nat.testBit (ZaI (Zax (L.take i)) (Zab o)) p=true/\∃f',fs[p]?=some f'/\f'.pn=true):=by
  intro i o f hi hf hle;have e1:L.take i=pre++r.take (i - pre.length):=by rw[<- hLe,Ybu,YaJ hle]
  have e2:fs.take i=pre.map (ZrB env)++fs0.take (i - pre.length):=by rw[<- hfe,Ybu,YaJ (by simpa using hle)];simp
  have h1:r[i - pre.length]?=some o:=by rw[<- hLe,Yak hle] at hi;exact hi
  have h2:fs0[i - pre.length]?=some f:=by rw[<- hfe,Yak (by simpa using hle)] at hf;simpa using hf
  obtain ⟨k1,k2⟩:=hfact0 _ o f h1 h2;rw[e1,e2,ZjG _ _ _ _ _ (by simp),ZfK];refine ⟨k1,λhd=>?_⟩;obtain ⟨p,hb,hp⟩:=k2 hd;rcases hp with hp | ⟨i',f',rfl,hf',hpf⟩
  ·simp at hp
  ·refine ⟨_,hb,f',?_,hpf⟩;rw[<- hfe,Yak (by simp)];simpa using hf'
 have hops:∀(i:Nat) (o:Oper),ops[i]?=some o↔ops.toList[i]?=some o:=λi o=>by simp
 have hedge:∀(i:Nat) (o:Oper),L[i]?=some o->∀e∈Zab o,e < i:=λi o hi e he=>(hat i o hi).1 e he;have hbind:∀(o:Oper) (e:Edge),e∈o.after.toList->Region.binds .any e=true->e.on∈Zab o:=by
  intro o e he hb;simp only[Zab,YaP];refine ⟨e,he,?_⟩;unfold Region.binds at hb;cases hg:e.ground<;>rw[hg] at hb<;>first | rfl | (simp at hb)
 have hedges:∀(o:Oper) (j:Nat),j∈Zab o->∃e∈o.after.toList,e.on=j/\Region.binds .any e=true:=by
  intro o j hj;simp only[Zab,YaP] at hj;obtain ⟨e,he,hej⟩:=hj;refine ⟨e,he,?_⟩;unfold Region.binds;cases hg:e.ground<;>rw[hg] at hej<;>simp_all
 let E:(Nat->Bool)->Env:=λX=>eXr X 0 env L fs
 let M:(Nat->Bool)->Nat:=λX=>Zdi X 0 L 0
 let stX:(Nat->Bool)->St:=λX=>⟨E X,H (ZaX (L.take (M X))),df⟩
 let RelP:(Nat->Bool)->Act->World->Prop:=λX a' w'=>a'.tmps.size=n/\a'.defers=df/\∃β V,RelD C (H (ZaX (L.take (M X)))) β V w'/\ZbO (stX X) β V w' a'/\ZpA T L pre.length X C (H (ZaX (L.take (M X)))) β V a'.tmps w'
 have inv:∀(fuel:Nat) (listed:Array Bool) (a':Act) (w':World),listed.size=ops.size->(List.range ops.size).countP (λi=>!listed.getD i false)<=fuel ->
   (∀(i:Nat) (o:Oper),L[i]?=some o->listed.getD i false=true->∀e∈Zab o,listed.getD e false=true)->(∀i,i < pre.length->listed.getD i false=true)->(∀i,L.length<=i->listed.getD i false=false) ->
   RelP (λi=>listed.getD i false) a' w'->Keeps S a a'->(∀(i:Nat) (f:Fact),fs[i]?=some f->listed.getD i false=true->f.pn=false) ->
   wpAny P .any ops post fuel listed a' w':=by
  intro fuel;have done:∀(fuel:Nat) (listed:Array Bool) (a':Act) (w':World),listed.size=ops.size->(List.range ops.size).countP (λi=>!listed.getD i false)<=fuel->(∀i,i < L.length->listed.getD i false=true)->(∀i,L.length<=i->listed.getD i false=false)->RelP (λi=>listed.getD i false) a' w'->Keeps S a a'->(∀(i:Nat) (f:Fact),fs[i]?=some f->listed.getD i false=true->f.pn=false)->wpAny P .any ops post fuel listed a' w':=by
   intro fuel listed a' w' hsz hcount hall hbey hrel hk hnp;refine hcont fuel listed a' w' _ (hQf rfl (λf hf=>by
    obtain ⟨i,hi,he⟩:=YaK hf;exact hnp (pre.length+i) f (by rw[<- hfe,Yak (by simp)];simp[he,hi]) (hall _ (by rw[<- hLe];simp;omega)))) ?_ hk hsz (λi=>?_) hcount
   rotate_left
   ·by_cases hi:i < L.length
    ·rw[hall i hi,decide_eq_true hi]
    ·rw[hbey i (by omega),decide_eq_false hi]
   obtain ⟨h1,h2,β,V,h3,h4,h5⟩:=hrel;have hEq:∀s,E (λi=>listed.getD i false) s=foldE env r fs0 s:=by
    intro s;have:=ZiR L fs L.length 0 env hfl;rw[YaE,YaJ (by omega)] at this;have e3:foldE env r fs0=foldE env L fs:=by rw[<- hLe,<- hfe,ZjG _ _ _ _ _ (by simp),ZfK]
    rw[e3,this];refine Zfn _ _ _ _ _ (λk o hk _=>?_) rfl;have hkl:k < L.length:=(Yaa.1 hk).1;simp only[YaA];rw[hall k hkl];exact (decide_eq_true hkl).symm
   have hMq:ZaX (L.take (M (λi=>listed.getD i false)))=ZaX L:=by
    have key:∀m,M (λi=>listed.getD i false)<=m->m<=L.length->ZaX (L.take m)=ZaX (L.take (M (λi=>listed.getD i false))):=by
     intro m
     induction m with
     | zero =>
      intro h _;have:M (λi=>listed.getD i false)=0:=by omega
      rw[this]
     | succ m ih =>
      intro hm hml;by_cases he:M (λi=>listed.getD i false)=m+1
      ·rw[he]
      ·have ho:L[m]?=some (L[m]'(by omega)):=Yaq (by omega);rw[Zck _ _ _ ho];cases hact:Zdl (L[m]'(by omega)).op with
       | false=>exact ih (by omega) (by omega)
       | true =>
        have:=Zg2 (p:=λi=>listed.getD i false) L 0 0 m _ ho hact (by rw[YaA];exact hall m (by omega));have hlt:m < M (λi=>listed.getD i false):=by simpa using this
        omega
    have hMle:M (λi=>listed.getD i false)<=L.length:=by
     rcases Zcw (p:=λi=>listed.getD i false) L 0 0 with h | ⟨k,o,hk,_,_,h⟩
     ·show Zdi _ _ _ _<=_;omega
     ·have:=(Yaa.1 hk).1;show Zdi _ _ _ _<=_;omega
    have:=key L.length hMle (Yax _);rw[YaE] at this;exact this.symm
   refine ⟨h1,h2,β,V,?_,λs=>?_,?_⟩
   rotate_right
   ·rw[hMq] at h5;obtain ⟨γ,g1,g2⟩:=h5;exact ⟨γ,λk o hk hlo hf _=>g1 k o hk hlo hf (hall k (Yaa.1 hk).1),λk k' o o' a1 a2 a3 a4 a5 a6 _ _=>g2 k k' o o' a1 a2 a3 a4 a5 a6 (hall k (Yaa.1 a1).1) (hall k' (Yaa.1 a2).1)⟩
   ·have h3':RelD C (H (ZaX (L.take (M (λi=>listed.getD i false))))) β V w':=h3;rw[hMq] at h3';exact h3'
   ·have h4s:Zaa (H (ZaX (L.take (M (λi=>listed.getD i false))))) β V w' (E (λi=>listed.getD i false) s) (a'.tmps.getD s undef):=h4 s;rw[hMq,hEq s] at h4s;exact hLf.rep h4s
  have rdy:∀(listed:Array Bool),listed.size=ops.size->(∀i,i < ops.size->listed.getD i false=false->(∀o,ops[i]?=some o->∀e∈Zab o,listed.getD e false=true)->i∈Region.ready .any ops listed):=by
   intro listed hsz i hi hl he;simp only[Region.ready,Yb5,YaZ];refine ⟨hi,?_⟩;have hlt:listed.getD i true=false:=by rw[Yat] at hl ⊢;rw[YaI (by omega)] at hl ⊢;exact hl
   have hoi:ops[i]?=some ops[i]:=YaI hi;rw[hlt,hoi];simp only[YcI,Ycs,Option.map_some,Option.getD_some];rw[YbO];intro k hk;simp only[YaV,YaN];by_cases hb:Region.binds .any ops[i].after[k]=true
   ·right;exact he _ hoi _ (hbind ops[i] ops[i].after[k] (by simp) hb)
   ·left;simpa using hb
  have hLs:L.length<=ops.size:=by have:=congrArg List.length hL;simp at this;omega
  have first:∀(listed:Array Bool),listed.size=ops.size->(¬ ∀i,i < L.length->listed.getD i false=true)->Region.ready .any ops listed≠[]:=by
   intro listed hsz hn hrd;refine hn (λi=>?_)
   induction i using Nat.strongRecOn with
   | _ i ih =>
    intro hi;by_cases hl:listed.getD i false=true
    ·exact hl
    ·exfalso;have hmem:=rdy listed hsz i (by omega) (by simpa using hl) (λo ho e he=>by
      have hlt:=hedge i o (hoL hi ((hops i o).1 ho)) e he;exact ih e hlt (by omega))
     rw[hrd] at hmem;simp at hmem
  induction fuel with
  | zero =>
   intro listed a' w' hsz hcount hcl hlow hbey hrel hk hnp;have hall:∀i,i < L.length->listed.getD i false=true:=by
    intro i hi;have h0:(List.range ops.size).countP (λi=>!listed.getD i false)=0:=by omega
    rw[List.countP_eq_zero] at h0;have:=h0 i (YaZ.2 (by omega));simpa using this
   exact done 0 listed a' w' hsz hcount hall hbey hrel hk hnp
  | succ fuel ih =>
   intro listed a' w' hsz hcount hcl hlow hbey hrel hk hnp;by_cases hall:∀i,i < L.length->listed.getD i false=true
   ·exact done (fuel+1) listed a' w' hsz hcount hall hbey hrel hk hnp
   refine ⟨λhrd=>absurd hrd (first listed hsz hall),λi hi=>?_⟩;simp only[Region.ready,Yb5,YaZ,Yaf,YaN] at hi;obtain ⟨hil,hli,hrdy⟩:=hi;have hlif:listed.getD i false=false:=by rw[Yat] at hli ⊢;rw[YaI (by omega)] at hli ⊢;exact hli
   have hoi:ops[i]?=some ops[i]:=YaI hil;generalize ho:ops[i]=o at hoi;have hot0:ops.toList[i]?=some o:=(hops i o).1 hoi;have hpre:∀e∈Zab o,listed.getD e false=true:=by
    intro j hj;obtain ⟨e,he,rfl,hb⟩:=hedges o j hj;rw[hoi] at hrdy;simp only[Option.map_some,Option.getD_some] at hrdy;rw[YbO] at hrdy;obtain ⟨k,hk,hke⟩:=YaK he;have:=hrdy k (by simpa using hk);simp only[YaV,YaN] at this;have hke':o.after[k]'(by simpa using hk)=e:=by simpa using hke
    rw[hke'] at this;rcases this with h1 | h1
    ·rw[hb] at h1;cases h1
    ·exact h1
   let X:Nat->Bool:=λk=>listed.getD k false
   have hXi:X i=false:=hlif;have hlol:pre.length<=i:=by
    apply YaG;intro hn;have:=hlow i (by omega);rw[hlif] at this;cases this
   have hihi:i < L.length:=by
    apply YaG;intro hn;have hrow0:=ZfH (X:=X) L (λk p hkp hXk e he=>hcl k p hkp hXk e he) (λk p hkp e he=>hedge k p hkp e he);by_cases hie:i=L.length
    ·refine hall (λj hj=>?_);have hb:=hsyn o (by rw[<- hie];exact hot0) j hj;rw[htk (Yax _),YaE] at hb;exact hrow0.2 (Zab o) hpre (λe he=>by have:=(hat0 i o hot0).1 e he;omega) j hb
    ·have hb:=hbar i o hot0 (by omega);have hcl2:∀(k:Nat) (p:Oper),(ops.toList.take i)[k]?=some p->X k=true->∀e∈Zab p,X e=true:=λk p hkp hXk e he=>by
      have hki:k < i:=by have:=(Yaa.1 hkp).1;simp at this;omega
      rw[Yaz hki] at hkp;by_cases hkl:k < L.length
      ·exact hcl k p (hoL hkl hkp) hXk e he
      ·rw[show X k=false from hbey k (by omega)] at hXk;cases hXk
     have hrow1:=ZfH (X:=X) (ops.toList.take i) hcl2 (λk p hkp e he=>by
      have hki:k < i:=by have:=(Yaa.1 hkp).1;simp at this;omega
      rw[Yaz hki] at hkp;exact (hat0 k p hkp).1 e he)
     have:=hrow1.2 (Zab o) hpre (λe he=>by have:=(hat0 i o hot0).1 e he;simp;omega) _ hb;rw[show X L.length=false from hbey _ (Yax _)] at this;cases this
   have hot:L[i]?=some o:=hoL hihi hot0;obtain ⟨f,hfi⟩:∃f,fs[i]?=some f:=⟨fs[i]'(by rw[hfl];exact hihi),Yaq _⟩;obtain ⟨hfa,hdead⟩:=hfact i o f hot hfi hlol;have hrow:=ZfH (X:=X) (L.take i) (λk p hkp hXk e he=>by
     have hki:k < i:=by have:=(Yaa.1 hkp).1;simp at this;omega
     rw[Yaz hki] at hkp;exact hcl k p hkp hXk e he) (λk p hkp e he=>by
     have hki:k < i:=by have:=(Yaa.1 hkp).1;simp at this;omega
     rw[Yaz hki] at hkp;exact hedge k p hkp e he)
   have before:∀(k:Nat) (p:Oper),k < i->L[k]?=some p->Zdk pp ops o p=true->X k=true:=by intro k p hki hkp hc;have hb:=(hat i o hot).2 k p (by rw[Yaz hki];exact hkp) hc;exact hrow.2 (Zab o) hpre (λe he=>by have:=hedge i o hot e he;simp;omega) k hb
   have later:∀(k:Nat) (p:Oper),i < k->L[k]?=some p->Zdk pp ops p o=true->X k=false:=by
    intro k p hki hkp hc;cases hXk:X k with
    | false=>rfl
    | true =>
     exfalso;have hb:=(hat k p hkp).2 i o (by rw[Yaz hki];exact hot) hc;have hrowk:=ZfH (X:=X) (L.take k) (λm q hmq hXm e he=>by
       have hmk:m < k:=by have:=(Yaa.1 hmq).1;simp at this;omega
       rw[Yaz hmk] at hmq;exact hcl m q hmq hXm e he) (λm q hmq e he=>by
       have hmk:m < k:=by have:=(Yaa.1 hmq).1;simp at this;omega
       rw[Yaz hmk] at hmq;exact hedge m q hmq e he)
     have hkl:k < L.length:=(Yaa.1 hkp).1;have:=hrowk.2 (Zab p) (hcl k p hkp hXk) (λe he=>by have:=hedge k p hkp e he;simp;omega) i hb;rw[hXi] at this;cases this
   have hlook:∀s∈o.looksAt ops,E X s=foldE env (L.take i) (fs.take i) s:=by
    intro s hsl;rw[ZiR L fs i 0 env hfl];refine Zfn _ _ _ _ _ (λk p hkp hd=>?_) rfl;simp only[YaA];rcases Yct k i with hki | hki | hki
    ·have:Zdk pp ops o p=true:=by
      cases hc:Zdk pp ops o p with
      | true=>rfl
      | false=>exact absurd hsl ((confl_symm_reads hc).2.1 s hd)
     rw[before k p hki hkp this];exact (decide_eq_true hki).symm
    ·subst hki;rw[hXi];simp
    ·have:Zdk pp ops p o=true:=by
      cases hc:Zdk pp ops p o with
      | true=>rfl
      | false=>exact absurd hsl ((confl_symm_reads hc).1 s hd)
     rw[later k p hki hkp this];exact (decide_eq_false (by omega)).symm
   have actpre:∀(k:Nat) (p:Oper),L[k]?=some p->Zdl p.op=true->(X k=true↔k < M X):=by
    intro k p hkp hact;constructor
    ·intro hXk;have:=Zg2 (p:=X) L 0 0 k p hkp hact (by rw[YaA];exact hXk);simpa using this
    ·intro hlt;rcases Zcw (p:=X) L 0 0 with h0 | ⟨j,q,hjq,hqa,hXj,hj⟩
     ·have:M X=0:=h0;omega
     ·have hMj:M X=j+1:=by show Zdi X 0 L 0=j+1;omega
      rw[YaA] at hXj;by_cases hkj:k=j
      ·subst hkj;exact hXj
      ·have hlt':k < j:=by omega
       have hc:Zdk pp ops q p=true:=by
        cases hc:Zdk pp ops q p with
        | true=>rfl
        | false=>have:=(confl_symm_reads hc).2.2.2.1;rw[hqa,hact] at this;cases this
       have hb:=(hat j q hjq).2 k p (by rw[Yaz hlt'];exact hkp) hc;have hrowj:=ZfH (X:=X) (L.take j) (λm q hmq hXm e he=>by
         have hmk:m < j:=by have:=(Yaa.1 hmq).1;simp at this;omega
         rw[Yaz hmk] at hmq;exact hcl m q hmq hXm e he) (λm q hmq e he=>by
         have hmk:m < j:=by have:=(Yaa.1 hmq).1;simp at this;omega
         rw[Yaz hmk] at hmq;exact hedge m q hmq e he)
       have hjl:j < L.length:=(Yaa.1 hjq).1;exact hrowj.2 (Zab q) (hcl j q hjq hXj) (λe he=>by have:=hedge j q hjq e he;simp;omega) k hb
   obtain ⟨hsza,hdfa,β,V,hrelX,henvX,hpend⟩:=hrel;have htmp:∀s,.tmp s∈o.op.operands->s∈o.looksAt ops:=λs hs=>YbZ _ (YaP.2 ⟨.tmp s,by simpa using hs,rfl⟩);have hLrep:∀s∈o.looksAt ops,Zaa (H (ZaX (L.take (M X)))) β V w' (f.L s) (a'.tmps.getD s undef):=by intro s hsl;have h1:Zaa (H (ZaX (L.take (M X)))) β V w' (E X s) (a'.tmps.getD s undef):=henvX s;rw[hlook s hsl] at h1;exact hfa.ref.rep h1
   have hwant:Region.wanted o (yielded ops a'.tmps)=f.run:=by
    have hg:=hfa.guard;unfold Zeg at hg;cases hgd:o.guard with
    | none=>rw[hgd] at hg;simp[Region.wanted,hgd,hg]
    | some g =>
     obtain ⟨j,b⟩:=g;rw[hgd] at hg;simp only at hg;have hw1:Region.wanted o (yielded ops a'.tmps)=(yielded ops a'.tmps j == some b):=by simp[Region.wanted,hgd]
     rw[hw1];cases hd:(ops[j]?).bind (·.dst) with
     | none =>
      rw[hd] at hg;have:yielded ops a'.tmps j=none:=by unfold yielded;rw[hd];rfl
      rw[this,hg];rfl
     | some s =>
      rw[hd] at hg;simp only at hg;have hsl:s∈o.looksAt ops:=by unfold Oper.looksAt;refine List.mem_append_right _ ?_;rw[hgd];simp[hd]
      have hrs:=hLrep s hsl;rw[ZiW hd];rcases hg with ⟨c,e1,e2⟩ | ⟨l,e1,e2⟩
      ·rw[e1] at hrs;simp only[Zaa,ZaW] at hrs;rw[hrs,e2];rfl
      ·rw[e1] at hrs;simp only[Zaa] at hrs;obtain ⟨us,hv',_⟩:=hrs;rw[hv',e2];rfl
   have hdn:∀d,o.dst=some d->d < n/\inL S d=true:=λd hd=>by
    have hmm:d∈ZbC (.region id ops true):=by simp only[ZbC,YaP];exact ⟨o,YaL hot0,hd⟩
    exact ⟨hs d hmm,hm d hmm⟩
   let X':Nat->Bool:=λk=>(listed.setIfInBounds i true).getD k false
   have hX':∀k,X' k=if k=i then true else X k:=λk=>ZaJ (by omega) false;have henv':∀s,E X' s=if o.dst=some s then f.d else E X s:=by
    intro s;by_cases hd:o.dst=some s
    ·rw[if_pos hd];refine ZxE L fs 0 env i o f hot hfi hd (by rw[YaA,hX',if_pos rfl]) (λk p hik hkp hd'=>?_);rw[YaA,hX',if_neg (by omega)];have hc:Zdk pp ops p o=true:=by
      cases hc:Zdk pp ops p o with
      | true=>rfl
      | false=>exact absurd hd ((confl_symm_reads hc).2.2.1 s hd')
     exact later k p hik hkp hc
    ·rw[if_neg hd];refine Zfn _ _ _ _ _ (λk p hkp hd'=>?_) rfl;rw[YaA,hX'];by_cases hki:k=i
     ·subst hki;rw[hot] at hkp;injection hkp with e;subst e;exact absurd hd' hd
     ·rw[if_neg hki]
   have stretch:∀(Pr:Nat->Prop) (lo hi:Nat),lo<=hi->hi<=L.length->(∀m p,lo<=m->m < hi->L[m]?=some p->Zdl p.op=false)->ZaX (L.take hi)=ZaX (L.take lo):=by
    intro _ lo hi hle hhl hna
    induction hi with
    | zero =>
     have:lo=0:=by omega
     rw[this]
    | succ m ihm =>
     by_cases he:lo=m+1
     ·rw[he]
     ·have hop:L[m]?=some (L[m]'(by omega)):=Yaq (by omega);rw[Zck _ _ _ hop,hna m _ (by omega) (by omega) hop];exact ihm (by omega) (by omega) (λk p h1 h2 h3=>hna k p h1 (by omega) h3)
   have hXact:∀(k:Nat) (p:Oper),Zdl o.op=true->L[k]?=some p->Zdl p.op=true->(X k=true↔k < i):=by
    intro k p hao hkp hap;have hc:∀q r:Oper,Zdl q.op=true->Zdl r.op=true->Zdk pp ops q r=true:=λq r h1 h2=>by
     cases hc:Zdk pp ops q r with
     | true=>rfl
     | false=>have:=(confl_symm_reads hc).2.2.2.1;rw[h1,h2] at this;cases this
    rcases Yct k i with hki | hki | hki
    ·exact ⟨λ_=>hki,λ_=>before k p hki hkp (hc _ _ hao hap)⟩
    ·subst hki;rw[hXi];exact ⟨λh=>(by cases h),λh=>absurd h (YcL _)⟩
    ·rw[later k p hki hkp (hc _ _ hap hao)];exact ⟨λh=>(by cases h),λh=>(by omega)⟩
   have hcA:Zdl o.op=true->ZaX (L.take (M X))=ZaX (L.take i)/\ZaX (L.take (M X'))=ZaX (L.take i)+1:=by
    intro hao;have hMi:M X<=i:=by
     rcases Zcw (p:=X) L 0 0 with h0 | ⟨j,q,hjq,hqa,hXj,hj⟩
     ·show Zdi X 0 L 0<=i;omega
     ·rw[YaA] at hXj;have:=(hXact j q hao hjq hqa).1 hXj;show Zdi X 0 L 0<=i;omega
    refine ⟨(stretch (λ_=>True) (M X) i hMi (by omega) (λm p h1 h2 hmp=>?_)).symm,?_⟩
    ·cases hap:Zdl p.op with
     | false=>rfl
     | true =>have:=(actpre m p hmp hap).1 ((hXact m p hao hmp hap).2 h2);omega
    ·have hM':M X'=i+1:=by
      have h1:i < M X':=by have:=Zg2 (p:=X') L 0 0 i o hot hao (by rw[YaA,hX',if_pos rfl]);simpa using this
      rcases Zcw (p:=X') L 0 0 with h0 | ⟨j,q,hjq,hqa,hXj,hj⟩
      ·have:M X'=0:=h0;omega
      ·have hMj:M X'=j+1:=by show Zdi X' 0 L 0=j+1;omega
       rw[YaA,hX'] at hXj;by_cases hji:j=i
       ·omega
       ·rw[if_neg hji] at hXj;have:=(hXact j q hao hjq hqa).1 hXj;omega
     rw[hM',Zck _ _ _ hot,hao];rfl
   have hcQ:Zdl o.op=false->M X'=M X:=by
    intro hao;refine Zjx L 0 0 (λk p hkp hap=>?_);rw[YaA,hX'];by_cases hki:k=i
    ·subst hki;rw[hot] at hkp;injection hkp with e;subst e;rw[hao] at hap;cases hap
    ·rw[if_neg hki]
   have next:f.pn=false->∀(v:Value) (w'':World) (β':Nat->Value) (V':Nat->Prop),RelD C (H (ZaX (L.take (M X')))) β' V' w''->Zaa (H (ZaX (L.take (M X')))) β' V' w'' f.d v ->
     LeH (H (ZaX (L.take (M X)))) β (H (ZaX (L.take (M X')))) β'->ZaB V w' V' w''->ZpA T L pre.length X' C (H (ZaX (L.take (M X')))) β' V' (a'.put o.dst v).tmps w''->wpAny P .any ops post fuel (listed.setIfInBounds i true) (a'.put o.dst v) w'':=by
    intro hfp v w'' β' V' hrel' hd' hle hmv hpd;refine ih (listed.setIfInBounds i true) (a'.put o.dst v) w'' (by simp[hsz]) ?_ ?_ (λk hk'=>?_) (λk hk'=>?_) ⟨?_,?_,β',V',hrel',λs=>?_,hpd⟩ (hk.trans (Keeps.put (λd hd=>(hdn d hd).2) v)) (λk f' hf' hXk=>?_)
    ·have:=ZfL (p:=λk=>!listed.getD k false) (q:=λk=>!(listed.setIfInBounds i true).getD k false) (i:=i) (List.range ops.size) YcC (YaZ.2 hil) (by simp[hlif]) (by have:=hX' i;simp only[X'] at this;rw[this];simp) (λj hj=>by have:=hX' j;simp only[X'] at this;rw[this,if_neg hj]);omega
    ·intro k p hkp hXk e he;have hXk':X' k=true:=hXk;show X' e=true;rw[hX'] at hXk' ⊢;by_cases hei:e=i
     ·rw[if_pos hei]
     ·rw[if_neg hei];by_cases hki:k=i
      ·subst hki;rw[hot] at hkp;injection hkp with e';subst e';exact hpre e he
      ·rw[if_neg hki] at hXk';exact hcl k p hkp hXk' e he
    ·have:X' k=true:=by rw[hX'];by_cases hki:k=i;exact if_pos hki;rw[if_neg hki];exact hlow k hk'
     exact this
    ·have:X' k=false:=by rw[hX',if_neg (by omega)];exact hbey k hk'
     exact this
    ·cases o.dst with
     | none=>exact hsza
     | some d=>simp[Act.put,hsza]
    ·cases o.dst with
     | none=>exact hdfa
     | some d=>exact hdfa
    ·show Zaa (H (ZaX (L.take (M X')))) β' V' w'' (E X' s) ((a'.put o.dst v).tmps.getD s undef);rw[henv' s];cases hdst:o.dst with
     | none =>rw[if_neg (by simp)];exact Zaa.mono hle hmv _ _ (henvX s)
     | some d =>
      have:=Zl4 (n:=n) (st:=⟨E X,H (ZaX (L.take (M X))),df⟩) (a:=a') henvX hsza hle hmv (i:=d) (hdn d hdst).1 hd' df s;simp only[Env.set] at this;by_cases hsd:s=d
      ·subst hsd;rw[YaO] at this;rw[if_pos rfl];exact this
      ·rw[ZcR hsd] at this;rw[if_neg (by intro e;injection e with e;exact hsd e.symm)];exact this
    ·have hXk':X' k=true:=hXk;rw[hX'] at hXk';by_cases hki:k=i
     ·subst hki;rw[hfi] at hf';injection hf' with e';rw[<- e'];exact hfp
     ·rw[if_neg hki] at hXk';exact hnp k f' hf' hXk'
   have hput:∀(v:Value) (k:Nat) (p:Oper) (s:Nat),L[k]?=some p->pre.length<=k->Zka p=true->k≠i->p.dst=some s->(a'.put o.dst v).tmps.getD s undef=a'.tmps.getD s undef:=by
    intro v k p s hkp hlk hfk hki hps;cases hdst:o.dst with
    | none=>rfl
    | some d =>
     have hsd:s≠d:=by intro e;subst e;obtain ⟨fk,hfk'⟩:∃fk,fs[k]?=some fk:=⟨fs[k]'(by rw[hfl];exact (Yaa.1 hkp).1),Yaq _⟩;have hu:=((hfact k p fk hkp hfk' hlk).1.flt hfk).2.2.2.2;simp only[Yaf] at hu;have hu2:=hu.1.2;rw[hps] at hu2;exact hki (Zzk hu2 (hLo hkp) hot0 hps hdst)
     simp only[Act.put,Yat,Ybl];rw[if_neg (λe=>hsd e.symm)]
   have pstep:Zka o=false->∀(v:Value) {h':Zad} {β':Nat->Value} {V':Nat->Prop} {w'':World},RelD ⟨w',λk=>∃i o,(H (ZaX (L.take (M X))))[i]?=some o/\o.live=true/\Bk o (β i) k,V,C.G⟩ h' β' V' w''->ZpA T L pre.length X' C h' β' V' (a'.put o.dst v).tmps w'':=by
    intro hno v h' β' V' w'' hr';have hne:∀(k:Nat) (p:Oper),L[k]?=some p->Zka p=true->k≠i:=λk p hkp hfk e=>by
     subst e;rw[hot] at hkp;injection hkp with e;subst e;rw[hno] at hfk;cases hfk
    refine hpend.step hrelX hr' (λk p hkp _ hfk hx=>?_) (λk p s hkp hlk hfk _ hps=>hput v k p s hkp hlk hfk (hne k p hkp hfk) hps);rw[hX',if_neg (hne k p hkp hfk)] at hx;exact hx
   unfold wpOp;rw[hoi];simp only[hwant];cases hrun:f.run with
   | false =>
    obtain ⟨hdany,hHs⟩:=hfa.skip hrun;have hHeq:H (ZaX (L.take (M X')))=H (ZaX (L.take (M X))):=by
     cases hao:Zdl o.op with
     | true=>obtain ⟨e1,e2⟩:=hcA hao;rw[e1,e2];exact hHs hao
     | false=>rw[hcQ hao]
    simp only[Yb6,if_false];have hfp:f.pn=false:=by
     cases hfp:f.pn with
     | false=>rfl
     | true=>have:=(hfa.pan hfp).1;rw[hrun] at this;cases this
    have hno:Zka o=false:=by
     cases hfo:Zka o with
     | false=>rfl
     | true=>have:=(hfa.flt hfo).2.1;rw[hrun] at this;cases this
    have:=next hfp undef w' β V (by rw[hHeq];exact hrelX) (by rw[hdany];simp only[Zaa];exact ⟨[],rfl,by simp[Zac]⟩) (by rw[hHeq];exact LeH.refl _ _) (ZaB.refl _ _) (by rw[hHeq];exact pstep hno undef (ZdD hrelX))
    exact this
   | true =>
    simp only[if_true];left;cases hno:Zka o with
    | true =>
     obtain ⟨hfd,_,hfpn,_,hdst⟩:=hfa.flt hno;obtain ⟨hna,hgn,_⟩:=Zt5 hno;simp only[Yaf] at hdst;obtain ⟨⟨hd1,hd2⟩,hd3⟩:=hdst;obtain ⟨s,hs0⟩:∃s,o.dst=some s:=by
      cases ho':o.dst with
      | none=>rw[ho'] at hd1;cases hd1
      | some s=>exact ⟨s,rfl⟩
     obtain ⟨t,ti,hop,hti⟩:∃t ti,o.op=.alloc t/\T t=some ti:=by
      cases ho':o.op with
      | alloc t =>
       rw[ho'] at hd3;simp only[Zq9] at hd3;cases ht:T t with
       | none=>rw[ht] at hd3;cases hd3
       | some ti=>exact ⟨t,ti,rfl,ht⟩
      | _=>rw[ho'] at hd3;cases hd3
     obtain ⟨inf,z,hinf,_,_,hz,hzc⟩:=(hT t ti hti).inf;have hrunA:(execOp a'.eval o).run P w'=.ok (.value (.pointer (some ⟨w'.heap.size,0,none⟩))) (w'.alloc (.cells ti.zero.toArray t)):=by simp[execOp,hop,Instr.alloc,zeroValue,typeInfo,hinf,hz,newVar,newRow,hzc]
     have hk2:=Ztn hrelX (Zd3 w' (.cells ti.zero.toArray t));have hHeq:H (ZaX (L.take (M X')))=H (ZaX (L.take (M X))):=by rw[hcQ hna]
     refine Zbj.wp ?_;rw[hrunA];refine next hfpn (.pointer (some ⟨w'.heap.size,0,none⟩)) (w'.alloc (.cells ti.zero.toArray t)) β V (by rw[hHeq];exact hk2.1) (by rw[hfd];simp only[Zaa]) (by rw[hHeq];exact LeH.refl _ _) hk2.2 ?_
     rw[hHeq];obtain ⟨γ,g1,g2⟩:=hpend;have hget:∀(k:Nat),k < w'.heap.size->(w'.alloc (.cells ti.zero.toArray t)).heap[k]?=w'.heap[k]?:=λk hk=>(Zd3 w' (.cells ti.zero.toArray t)).block k hk (λh=>h);refine ⟨λk=>if k=i then w'.heap.size else γ k,λk p hkp hlk hfk hx=>?_,λk k' p p' a1 a2 a3 a4 a5 a6 a7 a8 e=>?_⟩
     ·by_cases hki:k=i
      ·subst hki;rw[hot] at hkp;injection hkp with e;subst e;dsimp only;rw[if_pos rfl];refine ⟨s,t,ti,hs0,hop,hti,?_,heap_alloc_new w' _,λhv=>?_,.inl hrelX.fr.size,λi' o' q1 q2 q3=>?_⟩
       ·rw[hs0];simp only[Act.put,Yat,Ybl];simp[hsza,(hdn s hs0).1]
       ·exact absurd (hrelX.vlt _ hv) (YcL _)
       ·exact absurd (hrelX.lt q1 q2 q3) (YcL _)
      ·rw[hX',if_neg hki] at hx;dsimp only;rw[if_neg hki];obtain ⟨s',t',i',e1,e2,e3,e4,e5,e6,e7,e8⟩:=g1 k p hkp hlk hfk hx;exact ⟨s',t',i',e1,e2,e3,(hput _ k p s' hkp hlk hfk hki e1).trans e4,(hget _ (Ya1.1 e5).1).trans e5,e6,e7,e8⟩
     ·have lt':∀(k:Nat) (p:Oper),L[k]?=some p->pre.length<=k->Zka p=true->X' k=true->k≠i->γ k < w'.heap.size:=λk p b1 b2 b3 b4 b5=>by rw[hX',if_neg b5] at b4;obtain ⟨_,_,_,_,_,_,_,e5,_⟩:=g1 k p b1 b2 b3 b4;exact (Ya1.1 e5).1
      by_cases hki:k=i<;>by_cases hki':k'=i
      ·rw[hki,hki']
      ·simp only[if_pos hki,if_neg hki'] at e;have:=lt' k' p' a2 a4 a6 a8 hki';omega
      ·simp only[if_neg hki,if_pos hki'] at e;have:=lt' k p a1 a3 a5 a7 hki;omega
      ·simp only[if_neg hki,if_neg hki'] at e;rw[hX',if_neg hki] at a7;rw[hX',if_neg hki'] at a8;exact g2 k k' p p' a1 a2 a3 a4 a5 a6 a7 a8 e
    | false =>
    let L':Env:=λs=>bif inL (o.looksAt ops) s then f.L s else E X s
    have hL':∀s∈o.looksAt ops,L' s=f.L s:=λs hs=>by simp only[L',ZbY.2 hs];rfl
    have henvL:ZbO ⟨L',H (ZaX (L.take (M X))),df⟩ β V w' a':=by
     intro s;show Zaa _ β V w' (L' s) _;cases hin:inL (o.looksAt ops) s with
     | true=>rw[hL' s (ZbY.1 hin)];exact hLrep s (ZbY.1 hin)
     | false=>simp only[L',hin];exact henvX s
    have hsame:∀h',ZCI C.G ⟨f.L,h',df⟩ ⟨L',h',df⟩ o.op.operands.toList:=by
     intro h' x hx;cases x with
     | tmp t=>exact (hL' t (htmp t (by simpa using hx))).symm
     | _=>rfl
    have hnd:f.dd=false:=by
     cases hdd:f.dd with
     | false=>rfl
     | true =>
      exfalso;obtain ⟨p,hb,f',hf',hpf⟩:=hdead hdd;have hXp:=hrow.2 (Zab o) hpre (λe he=>by have:=hedge i o hot e he;simp;omega) p hb;have:=hnp p f' hf' hXp;rw[hpf] at this;cases this
    cases hfp:f.pn with
    | true =>
     obtain ⟨_,_,hpop⟩:=hfa.pan hfp;have hop:ZaK P T F C.G o.op ⟨L',H (ZaX (L.take (M X))),df⟩ (λ_ _=>False) (λdp _=>Qp dp) :=
      Zhl (st:=⟨f.L,H (ZaX (L.take (M X))),df⟩) (st':=⟨L',H (ZaX (L.take (M X))),df⟩) rfl (hsame _) (hpop _)
     refine Zbj.wp (Zjp (st:=⟨L',H (ZaX (L.take (M X))),df⟩) hT hF hop hrelX henvL ?_ ?_)
     ·intro d h' v w'' β' V' hq;exact hq.elim
     ·intro d h' t u w'' β' V' hq hrel' hd' hle hmv;exact hpan d L' h' _ a' w'' hq ⟨t,u,rfl,hsza,hdfa,β',V',hrel',λk=>Zaa.mono hle hmv _ _ (henvL k),hd'⟩ hk
    | false =>
    have hop:∃z q:Bool,ZaK P T F C.G o.op ⟨L',H (ZaX (L.take (M X))),df⟩ (λd h=>frz z (H (ZaX (L.take (M X)))).length d h λd h=>frq q (H (ZaX (L.take (M X)))).length d h λd h=>d=f.d/\h=H (ZaX (L.take (M X')))/\(q=true->z=false/\H (ZaX (L.take (M X')))=H (ZaX (L.take (M X))))) (λ_ _=>False):=by
     cases hao:Zdl o.op with
     | true =>obtain ⟨e1,e2⟩:=hcA hao;obtain ⟨z,hz⟩:=(hfa.act hrun hao).1;refine ⟨z,false,Zhl (st:=⟨f.L,H (ZaX (L.take (M X))),df⟩) (st':=⟨L',H (ZaX (L.take (M X))),df⟩) rfl (hsame _) ?_⟩;rw[e1,e2];refine hz _ ?_;exact (show _/\_/\_ from ⟨rfl,rfl,λhq=>by cases hq⟩)
     | false =>
      obtain ⟨q,hz⟩:=hfa.quiet hno hrun hao hfp hnd;refine ⟨false,q,Zhl (st:=⟨f.L,H (ZaX (L.take (M X))),df⟩) (st':=⟨L',H (ZaX (L.take (M X))),df⟩) rfl (hsame _) ?_⟩;refine hz _ (λd h=>d=f.d/\h=H (ZaX (L.take (M X')))/\(q=true->false=false/\H (ZaX (L.take (M X')))=H (ZaX (L.take (M X))))) ?_ (show _/\_/\_ from ⟨rfl,by rw[hcQ hao],λ_=>⟨rfl,by rw[hcQ hao]⟩⟩);cases hhl:hpl pp o.op with
      | true=>exact .inr rfl
      | false =>
       left;have hi0:∀j p,(L.take i)[j]?=some p->Zdl p.op=true->Nat.testBit (ZaI (Zax (L.take i)) (Zab o)) j=true->j < Zdi (Nat.testBit (ZaI (Zax (L.take i)) (Zab o))) 0 (L.take i) 0:=by intro j p hjp hap hb;have:=Zg2 (p:=Nat.testBit (ZaI (Zax (L.take i)) (Zab o))) (L.take i) 0 0 j p hjp hap (by rw[YaA];exact hb);simpa using this
       generalize hi0e:Zdi (Nat.testBit (ZaI (Zax (L.take i)) (Zab o))) 0 (L.take i) 0=i0 at hi0;have hle:i0<=M X/\i0<=i:=by
        rcases Zcw (p:=Nat.testBit (ZaI (Zax (L.take i)) (Zab o))) (L.take i) 0 0 with h0 | ⟨j,q,hjq,hqa,hb,hj⟩
        ·rw[hi0e] at h0;omega
        ·rw[hi0e] at hj;rw[YaA] at hb;have hji:j < i:=by have:=(Yaa.1 hjq).1;simp at this;omega
         have hXj:=hrow.2 (Zab o) hpre (λe he=>by have:=hedge i o hot e he;simp;omega) j hb;rw[Yaz hji] at hjq;have:=(actpre j q hjq hqa).1 hXj;omega
       have hlo:Zpn (ZaI (Zax (L.take i)) (Zab o)) (L.take i)=ZaX (L.take i0):=by unfold Zpn;rw[hi0e,YbS,Ybb hle.2]
       rw[hlo];have hMl:M X<=L.length:=by
        rcases Zcw (p:=X) L 0 0 with h0 | ⟨j,q,hjq,_,_,hj⟩
        ·show Zdi X 0 L 0<=_;omega
        ·have:=(Yaa.1 hjq).1;show Zdi X 0 L 0<=_;omega
       have chain:∀m,i0<=m->m<=M X->Ex (H (ZaX (L.take i0))) (H (ZaX (L.take m))):=by
        intro m
        induction m with
        | zero =>
         intro h1 _;have:i0=0:=by omega
         rw[this];exact Ex.refl _
        | succ m ihm =>
         intro h1 h2;by_cases he:i0=m+1
         ·rw[he];exact Ex.refl _
         ·have hop:L[m]?=some (L[m]'(by omega)):=Yaq (by omega);generalize L[m]'(by omega)=p at hop;refine (ihm (by omega) (by omega)).trans ?_;rw[Zck _ _ _ hop];cases hap:Zdl p.op with
          | false=>exact Ex.refl _
          | true =>
           simp only[cond_true];obtain ⟨fm,hfm⟩:∃fm,fs[m]?=some fm:=⟨fs[m]'(by rw[hfl];omega),Yaq _⟩;by_cases hmlo:m < pre.length
           ·have e1:ZaX (L.take m)+1=ZaX (L.take (m+1)):=by rw[Zck _ _ _ hop,hap];rfl
            have e2:ZaX (L.take (m+1))<=ZaX pre:=by
             have e3:L.take (m+1)=pre.take (m+1):=by rw[<- hprt,YbS,Ybb (by omega)]
             rw[e3];exact Zd5 _ _
            rw[hHc _ (by omega),hHc _ (by omega)];exact Ex.refl _
           have hfam:=(hfact m p fm hop hfm (by omega)).1;cases hrm:fm.run with
           | false=>rw[(hfam.skip hrm).2 hap];exact Ex.refl _
           | true =>
            refine (hfam.act hrm hap).2 ?_;cases hmu:ZlD pp p.op with
            | false=>rfl
            | true =>
             exfalso;have hXm:=(actpre m p hop hap).2 (by omega);rcases Yct m i with hmi | hmi | hmi
             ·have hc:Zdk pp ops o p=true:=by
               cases hc:Zdk pp ops o p with
               | true=>rfl
               | false=>have:=(confl_symm_reads hc).2.2.2.2.2 hmu;simp[ZzT,hhl,hno] at this
              have hb:=(hat i o hot).2 m p (by rw[Yaz hmi];exact hop) hc;have:=hi0 m p (by rw[Yaz hmi];exact hop) hap hb;omega
             ·subst hmi;rw[hot] at hop;injection hop with e;subst e;rw[hao] at hap;cases hap
             ·have hc:Zdk pp ops p o=true:=by
               cases hc:Zdk pp ops p o with
               | true=>rfl
               | false=>have:=(confl_symm_reads hc).2.2.2.2.1 hmu;simp[ZzT,hhl,hno] at this
              rw[later m p hmi hop hc] at hXm;cases hXm
       exact chain (M X) hle.1 (Yax _)
    obtain ⟨z,q,hop⟩:=hop;refine Zbj.wp (Zjp (st:=⟨L',H (ZaX (L.take (M X))),df⟩) hT hF (C:=⟨w',λk=>∃i o,(H (ZaX (L.take (M X))))[i]?=some o/\o.live=true/\Bk o (β i) k,V,C.G⟩) hop (ZdD hrelX) henvL ?_ ?_)
    ·intro d h' v w'' β' V' hq hrel1 hd' hle hmv;have hrel':=ZkA hrelX hrel1;have hpd:=pstep hno v hrel1;cases q with
     | true =>
      have hq':∃h0 xs e sz,h'=h0++[Obj.row xs e sz]/\d=.row h0.length/\h0.length=(H (ZaX (L.take (M X)))).length/\.g (.sl sz xs)=f.d/\h0=H (ZaX (L.take (M X')))/\(true=true->z=false/\H (ZaX (L.take (M X')))=H (ZaX (L.take (M X)))):=by
       cases z with
       | false=>exact hq
       | true =>
        obtain ⟨_,_,_,_,_,h0,xs,e,sz,_,_,_,_,_,hz⟩:=ZlY hq;cases (hz rfl).1
      obtain ⟨h0,xs,e,sz,rfl,rfl,hn0,e1,e2,e3⟩:=hq';have e4:=e2.trans (e3 rfl).2;have hk1:=ZeK hrel' [h0.length];have hp1:=hpd.kill [h0.length];rw[ZrS] at hk1 hp1;have hX1:RelD C h0 β V w':=by rw[e4];exact hrelX
      refine next hfp v w'' β' (Zg3 (h0++[.row xs e sz]) [h0.length] β' V') (by rw[<- e2];exact RelD.unapp hX1 hk1) ?_ (by rw[<- e2];exact LeH.unapp hn0 hle) (hmv.trans (Zbw _ _ _ _ _)) (by rw[<- e2];exact hp1.unapp)
      rw[<- e1,<- e2];simp only[Zaa];refine Zlq (d:=.row _) hrel' ?_ hd' (λj hj=>by simpa [ids] using hj);simp[Zu7]
     | false =>
     cases z with
     | false =>obtain ⟨rfl,rfl,_⟩:=hq;exact next hfp v w'' β' V' hrel' hd' hle hmv hpd
     | true =>
      obtain ⟨xs,e,sz,rfl,hi,e1,e2,_⟩:=ZlY hq;refine next hfp v w'' β' (Zg3 h' [(H (ZaX (L.take (M X)))).length] β' V') (by rw[<- e2];exact ZeK hrel' _) ?_ (by rw[<- e2];exact LeH.trans hle (ZeJ _ _ _)) (hmv.trans (Zbw _ _ _ _ _)) (by rw[<- e2];exact hpd.kill _)
      rw[<- e1,<- e2];simp only[Zaa];refine Zlq (d:=.row _) hrel' ?_ hd' (λj hj=>by simpa [ids] using hj);simp only[Zu7,hi]
    ·intro d h' t u w'' β' V' hq;exact hq.elim
 intro fuel listed a' w' hsz hcount hlist hrel hk;refine inv fuel listed a' w' hsz hcount (λi o hi hX e he=>?_) (λi hi=>by rw[hlist,decide_eq_true hi]) (λi hi=>by rw[hlist];exact decide_eq_false (by omega)) ?_ hk (λi f hf hX=>?_)
 ·rw[hlist] at hX ⊢;have:=of_decide_eq_true hX;have:=hedge i o hi e he;exact decide_eq_true (by omega)
 ·obtain ⟨h1,h2,β,V,h3,h4⟩:=hrel;have hXf:(λi=>listed.getD i false)=λi=>decide (i < 0+pre.length):=by funext i;rw[hlist,YaA]
  rw[hXf];have hM0:M (λi=>decide (i < 0+pre.length))<=pre.length:=by
   rcases Zcw (p:=λi=>decide (i < 0+pre.length)) L 0 0 with h0 | ⟨j,q,_,_,hb,h0⟩
   ·show Zdi _ _ _ _<=_;omega
   ·have:=of_decide_eq_true hb;show Zdi _ _ _ _<=_;omega
  have hE0:∀s,E (λi=>decide (i < 0+pre.length)) s=env s:=by intro s;have:=ZiR L fs pre.length 0 env hfl;rw[hprt,hpft,ZfK] at this;exact (congrFun this s).symm
  have hHz:H (ZaX (L.take (M (λi=>decide (i < 0+pre.length)))))=hh:=hHc _ (by
   have e3:L.take (M (λi=>decide (i < 0+pre.length)))=pre.take (M (λi=>decide (i < 0+pre.length))):=by rw[<- hprt,YbS,Ybb (by rw[hprt];exact hM0)]
   rw[e3];exact Zd5 _ _)
  refine ⟨h1,h2,β,V,?_,λs=>?_,⟨λ_=>0,λk o hk hlo _ hx=>(by have:=of_decide_eq_true hx;omega),λk k' o o' _ _ a3 _ _ _ a7 _ _=>(by have:=of_decide_eq_true a7;omega)⟩⟩
  ·show RelD C (H (ZaX (L.take (M (λi=>decide (i < 0+pre.length)))))) β V _;rw[hHz];exact h3
  ·show Zaa (H (ZaX (L.take (M (λi=>decide (i < 0+pre.length)))))) β V _ (E (λi=>decide (i < 0+pre.length)) s) _;rw[hHz,hE0 s];exact h4 s
 ·rw[hlist] at hX;have hi:=of_decide_eq_true hX;rw[<- hfe,Yaj (by simpa using hi),YaC] at hf;obtain ⟨o,_,rfl⟩:=YaD.1 hf;rfl
def Zzz (ks:List Nat) (i row:Nat):Bool:=ks.all (λk=>bif Nat.blt k i then Nat.testBit row k else bif Nat.beq k i then Nat.beq (row % 2 ^ k) (2 ^ k - 1) else true)
def ZmM (ks:List Nat):List Oper->Nat->List Nat->Bool
 | [],_,_=>true
 | o :: r,i,acc=>Zzz ks i (ZaI acc (Zab o)) && ZmM ks r (i+1) (acc++[ZaI acc (Zab o)])
def Zhf:Nat->List Nat->List Nat
 | _,[]=>[]
 | i,m :: l=>(i+m) :: Zhf (i+m+1) l
def ZBx [CA] (lt:Option Nat) (P:Program) (T:Tab) (F:FuncId->Bool) (G:Gl) (all:Array Oper) (Q:Post) (K:St->Prop) (ms:List Nat):List Oper->List Oper->Env->Zad->List Deferred->Prop :=
 List.rec (motive:=λ_=>List Oper->List Oper->Env->Zad->List Deferred->Prop)
  (λr pre env h df=>Zmq P T F G lt (λdp=>∀(e:Env) (h:Zad),Q (.pan dp) ⟨e,h,df⟩) all r pre (Zax pre) (List.replicate (ZaX pre+1) h) env df [] (Zhh T K r))
  (λm _ next r pre env h df=>Zmq P T F G lt (λdp=>∀(e:Env) (h:Zad),Q (.pan dp) ⟨e,h,df⟩) all (r.take m) pre (Zax pre) (List.replicate (ZaX pre+1) h) env df []
   (Zhh T (λst=>match r.drop m with
    | o :: r'=>Zi2 P T F G all o st (λst'=>match st' with | ⟨env',h',df'⟩=>next r' ((pre++r.take m)++[o]) env' h' df') Q
    | []=>False) (r.take m))) ms
theorem ZsC [CA] {lt:Option Nat} {P:Program} {T:Tab} {F:FuncId->Bool} {G:Gl} {all:Array Oper} {Q:Post} {K:St->Prop} {m:Nat} {l:List Nat} {r pre:List Oper} {env:Env} {h:Zad} {df:List Deferred} :
  ZBx lt P T F G all Q K (m :: l) r pre env h df=Zmq P T F G lt (λdp=>∀(e:Env) (h:Zad),Q (.pan dp) ⟨e,h,df⟩) all (r.take m) pre (Zax pre) (List.replicate (ZaX pre+1) h) env df []
   (Zhh T (λst=>match r.drop m with
    | o :: r'=>Zi2 P T F G all o st (λst'=>match st' with | ⟨env',h',df'⟩=>ZBx lt P T F G all Q K l r' ((pre++r.take m)++[o]) env' h' df') Q
    | []=>False) (r.take m)):=rfl
theorem Zjg {ks:List Nat}:∀(r pre:List Oper) (i0:Nat),ZmM ks r i0 (Zax pre)=true->i0=pre.length->∀(i:Nat) (o:Oper),r[i]?=some o->Zzz ks (i0+i) (ZaI (Zax (pre++r.take i)) (Zab o))=true
 | [],_,_,_,_,i,o,h=>by simp at h
 | o :: r,pre,i0,h,_,0,o',hi=>by simp at hi;subst hi;simp only[ZmM,Yaf] at h;simpa using h.1
 | o :: r,pre,i0,h,h0,i+1,o',hi=>by simp only[ZmM,Yaf] at h;have h2:=h.2;rw[<- ZfQ] at h2;have:=Zjg r (pre++[o]) (i0+1) h2 (by simp[h0]) i o' (by simpa using hi);rw[show i0+(i+1)=i0+1+i from by omega];simpa [List.append_assoc] using this
theorem Zul {row k j:Nat} (h:row % 2 ^ k=2 ^ k - 1) (hj:j < k):Nat.testBit row j=true:=by
 have h1:Nat.testBit (row % 2 ^ k) j=Nat.testBit row j:=by rw[Nat.testBit_mod_two_pow];simp[hj]
 rw[<- h1,h,Nat.testBit_two_pow_sub_one];exact decide_eq_true hj
set_option maxHeartbeats 1600000 in
theorem Zkx [CA] {lt:Option Nat} (hT:TabOk P T) (hF:∀g,F g=true->fnOk P g=true) {id:Nat} {ops:Array Oper} (S:List Nat) (hs:∀k∈ZbC (.region id ops true),k < n) (hm:∀k∈ZbC (.region id ops true),inL S k=true) {Q:Post} {a:Act} {K:St->Prop} {post:Exit->Act->World->Prop} (ks:List Nat)
  (hat0:∀(i:Nat) (o:Oper),ops.toList[i]?=some o->(∀e∈Zab o,e < i)/\∀(k:Nat) (p:Oper),(ops.toList.take i)[k]?=some p->Zdk lt ops o p=true->Nat.testBit (ZaI (Zax (ops.toList.take i)) (Zab o)) k=true)
  (hbk:∀(i:Nat) (o:Oper),ops.toList[i]?=some o->Zzz ks i (ZaI (Zax (ops.toList.take i)) (Zab o))=true)
  (hpost:∀(x:X) (st:St) (e:Exit) (a':Act) (w':World),(match x with | .normal=>K st | x=>Q x st)->XOk e x st a' w' C n->Keeps S a a'->post e a' w') :
  ∀(ms:List Nat) (r pre:List Oper) (env:Env) (h:Zad) (df:List Deferred),ops.toList=pre++r->(∀k∈Zhf pre.length ms,k∈ks)->ZBx lt P T F C.G ops Q K ms r pre env h df ->
  ∀(fuel:Nat) (listed:Array Bool) (a':Act) (w':World),listed.size=ops.size->(List.range ops.size).countP (λi=>!listed.getD i false)<=fuel->(∀i,listed.getD i false=decide (i < pre.length))->Rel C n ⟨env,h,df⟩ a' w'->Keeps S a a'->wpAny P .any ops post fuel listed a' w':=by
 have hpan:∀(df:List Deferred) (dp:D) (e:Env) (h':Zad) (ch:List PanicEntry) (a':Act) (w':World),(∀(e:Env) (h:Zad),Q (.pan dp) ⟨e,h,df⟩)->XOk (.panic ch) (.pan dp) ⟨e,h',df⟩ a' w' C n->Keeps S a a'->post (.panic ch) a' w':=λdf dp e h' ch a' w' hq hx hk=>hpost (.pan dp) _ _ _ _ (hq e h') hx hk;have ended:∀(fuel:Nat) (listed:Array Bool) (a':Act) (w':World),listed.size=ops.size->(∀i,listed.getD i false=decide (i < ops.toList.length))->post .normal a' w'->wpAny P .any ops post fuel listed a' w':=by
  intro fuel listed a' w' hsz hall hp;have hrd:Region.ready .any ops listed=[]:=by
   simp only[Region.ready,Ycb,YaZ];intro i hi;have:=hall i;rw[decide_eq_true (by simpa using hi)] at this;have hlt:listed.getD i true=true:=by rw[Yat] at this ⊢;rw[YaI (by omega)] at this ⊢;exact this
   rw[hlt];simp
  exact wpAny_done hrd hp fuel
 intro ms
 induction ms with
 | nil =>
  intro r pre env h df hL hks hv fuel listed a' w' hsz hcount hlist hrel hk;refine Zjf hT hF S hs hm hat0 pre r [] (by simpa using hL) hv (λo ho=>?_) (λi o hi hlt=>?_) (hpan df) (λfuel listed a' w' st hK hr hk hsz hl _=>by
   obtain ⟨st1,hr1,hK1⟩:=Zct r pre.length (by simp) st hr hK;exact ended fuel listed a' w' hsz (λi=>by rw[hl,hL]) (hpost .normal st1 .normal a' w' hK1 hr1 hk)) fuel listed a' w' hsz hcount hlist hrel hk
  ·rw[hL] at ho;simp at ho
  ·rw[hL] at hi;have:=(Yaa.1 hi).1;omega
 | cons m l ih =>
  intro r pre env h df hL hks hv fuel listed a' w' hsz hcount hlist hrel hk;simp only[ZsC] at hv;have hL2:ops.toList=(pre++r.take m)++r.drop m:=by rw[Yas,Ya4];exact hL
  by_cases hmr:m < r.length
  rotate_left
  ·refine Zjf hT hF S hs hm hat0 pre (r.take m) (r.drop m) hL2 hv (λo ho=>?_) (λi o hi hlt=>?_) (hpan df) (λfuel listed a' w' st hK hr hk hsz hl _=>?_) fuel listed a' w' hsz hcount hlist hrel hk
   ·rw[hL] at ho;have:=(Yaa.1 ho).1;simp at this;omega
   ·rw[hL] at hi;have:=(Yaa.1 hi).1;simp at this hlt;omega
   ·obtain ⟨st1,hr1,hK1⟩:=Zct (r.take m) pre.length (by simp) st hr hK;rw[YbV (by omega)] at hK1;exact hK1.elim
  have hlen:(pre++r.take m).length=pre.length+m:=by simp;omega
  have hkm:pre.length+m∈ks:=hks _ (by simp[Zhf]);have hsyn:∀(o:Oper),ops.toList[(pre++r.take m).length]?=some o->∀j,j < (pre++r.take m).length->Nat.testBit (ZaI (Zax (ops.toList.take (pre++r.take m).length)) (Zab o)) j=true:=by
   intro o ho j hj;have hb:=Ya7.1 (hbk _ o ho) _ hkm;rw[hlen] at hb hj ⊢;rw[show Nat.blt (pre.length+m) (pre.length+m)=false from by
    cases hx:Nat.blt (pre.length+m) (pre.length+m) with
    | false=>rfl
    | true=>exact absurd (Yaw hx) (by omega),YaO] at hb
   simp only[cond_false,cond_true] at hb;exact Zul (Yap hb) hj
  have hbar:∀(i:Nat) (o:Oper),ops.toList[i]?=some o->(pre++r.take m).length < i->Nat.testBit (ZaI (Zax (ops.toList.take i)) (Zab o)) (pre++r.take m).length=true:=by intro i o ho hi;have hb:=Ya7.1 (hbk _ o ho) _ hkm;rw[hlen] at hi ⊢;rw[show Nat.blt (pre.length+m) i=true from Ybr hi] at hb;simpa only[cond_true] using hb
  refine Zjf hT hF S hs hm hat0 pre (r.take m) (r.drop m) hL2 hv hsyn hbar (hpan df) (λfuel listed a' w' st hK hr hk hsz hl hcount=>?_) fuel listed a' w' hsz hcount hlist hrel hk;obtain ⟨st,hr,hK⟩:=Zct (r.take m) pre.length (by simp) st hr hK;have hdr:r.drop m=r[m] :: r.drop (m+1):=Ybh hmr;rw[hdr] at hK;simp only at hK;generalize ho:r[m]=o at hK hdr;have hot:ops.toList[pre.length+m]?=some o:=by rw[hL2,Yak (by omega),hlen,Ybk,hdr];rfl
  have hoi:ops[pre.length+m]?=some o:=by simpa using hot
  have hilt:pre.length+m < ops.size:=by have:=(Yaa.1 hot).1;simpa using this
  have hL3:ops.toList=((pre++r.take m)++[o])++r.drop (m+1):=by rw[hL2,hdr,Yas];simp
  have hdn:∀d,o.dst=some d->d < n/\inL S d=true:=λd hd=>by
   have hmm:d∈ZbC (.region id ops true):=by simp only[ZbC,YaP];exact ⟨o,YaL hot,hd⟩
   exact ⟨hs d hmm,hm d hmm⟩
  cases fuel with
  | zero =>
   exfalso;have h0:(List.range ops.size).countP (λi=>!listed.getD i false)=0:=by omega
   rw[List.countP_eq_zero] at h0;have:=h0 (pre.length+m) (YaZ.2 hilt);rw[hl,hlen] at this;simp at this
  | succ fuel =>
   have hbind:∀(o:Oper) (e:Edge),e∈o.after.toList->Region.binds .any e=true->e.on∈Zab o:=by
    intro o e he hb;simp only[Zab,YaP];refine ⟨e,he,?_⟩;unfold Region.binds at hb;cases hg:e.ground<;>rw[hg] at hb<;>first | rfl | (simp at hb)
   refine ⟨λhrd=>?_,λi hi=>?_⟩
   ·exfalso;have hmem:pre.length+m∈Region.ready .any ops listed:=by
     simp only[Region.ready,Yb5,YaZ];refine ⟨hilt,?_⟩;have hlf:listed.getD (pre.length+m) false=false:=by rw[hl,hlen];simp
     have hlt:listed.getD (pre.length+m) true=false:=by rw[Yat] at hlf ⊢;rw[YaI (by omega)] at hlf ⊢;exact hlf
     rw[hlt,hoi];simp only[YcI,Ycs,Option.map_some,Option.getD_some];rw[YbO];intro k hk;simp only[YaV,YaN];by_cases hb:Region.binds .any o.after[k]=true
     ·right;have hed:=(hat0 _ o hot).1 _ (hbind o o.after[k] (by simp) hb);rw[hl,hlen];exact decide_eq_true hed
     ·left;simpa using hb
    rw[hrd] at hmem;simp at hmem
   ·simp only[Region.ready,Yb5,YaZ,Yaf,YaN] at hi;obtain ⟨hil,hli,hrdy⟩:=hi;have hlif:listed.getD i false=false:=by rw[Yat] at hli ⊢;rw[YaI (by omega)] at hli ⊢;exact hli
    have hoi':ops[i]?=some ops[i]:=YaI hil;have hige:pre.length+m<=i:=by rw[hl,hlen] at hlif;have:=of_decide_eq_false hlif;omega
    have hie:i=pre.length+m:=by
     apply YaG;intro hne;generalize hop:ops[i]=p at hoi';have hpt:ops.toList[i]?=some p:=by simpa using hoi'
     have hb:=hbar i p hpt (by rw[hlen];omega)
     let X:Nat->Bool:=λk=>listed.getD k false
     have hcl2:∀(k:Nat) (q:Oper),(ops.toList.take i)[k]?=some q->X k=true->∀e∈Zab q,X e=true:=λk q hkp hXk e he=>by
      have hki:k < i:=by have:=(Yaa.1 hkp).1;simp at this;omega
      rw[Yaz hki] at hkp;have hXk':listed.getD k false=true:=hXk;show listed.getD e false=true;rw[hl] at hXk' ⊢;have:=of_decide_eq_true hXk';have:=(hat0 k q hkp).1 e he;exact decide_eq_true (by omega)
     have hpre:∀e∈Zab p,X e=true:=by
      intro j hj;simp only[Zab,YaP] at hj;obtain ⟨e,he,hej⟩:=hj;rw[hoi'] at hrdy;simp only[Option.map_some,Option.getD_some] at hrdy;rw[YbO] at hrdy;obtain ⟨k,hk,hke⟩:=YaK he;have:=hrdy k (by simpa using hk);simp only[YaV,YaN] at this;have hke':p.after[k]'(by simpa using hk)=e:=by simpa using hke
      rw[hke'] at this;have hbe:Region.binds .any e=true/\e.on=j:=by
       unfold Region.binds;cases hg:e.ground<;>rw[hg] at hej<;>simp_all
      rcases this with h1 | h1
      ·rw[hbe.1] at h1;cases h1
      ·rw[hbe.2] at h1;exact h1
     have hrow1:=ZfH (X:=X) (ops.toList.take i) hcl2 (λk q hkp e he=>by
      have hki:k < i:=by have:=(Yaa.1 hkp).1;simp at this;omega
      rw[Yaz hki] at hkp;exact (hat0 k q hkp).1 e he)
     have:=hrow1.2 (Zab p) hpre (λe he=>by
      have:=(hat0 i p hpt).1 e he;have hil2:i<=ops.toList.length:=by simpa using Nat.le_of_lt hil
      rw[Yan,Ybb hil2];exact this) _ hb
     have h5:listed.getD (pre++r.take m).length false=true:=this;rw[hl] at h5;simp at h5
    subst hie;have hcnt:(List.range ops.size).countP (λk=>!(listed.setIfInBounds (pre.length+m) true).getD k false)<=fuel:=by have hX':∀k,(listed.setIfInBounds (pre.length+m) true).getD k false=if k=pre.length+m then true else listed.getD k false:=λk=>ZaJ (by omega) false;have:=ZfL (p:=λk=>!listed.getD k false) (q:=λk=>!(listed.setIfInBounds (pre.length+m) true).getD k false) (i:=pre.length+m) (List.range ops.size) YcC (YaZ.2 hil) (by simp[hlif]) (by rw[hX'];simp) (λj hj=>by rw[hX',if_neg hj]);omega
    have hst:=Zjq (all:=ops) (o:=o) (st:=st) (next:=λa2 w2=>wpAny P .any ops post fuel (listed.setIfInBounds (pre.length+m) true) a2 w2) (Qa:=post) hT hF hr (λd hd=>(hdn d hd).1) hK (λst' v w2 hk' hr'=>by
     obtain ⟨env',h',df'⟩:=st';refine ih (r.drop (m+1)) ((pre++r.take m)++[o]) env' h' df' hL3 (λk hk2=>hks k ?_) hk' fuel _ _ w2 (by simp[hsz]) hcnt (λk=>?_) hr' (hk.trans (Keeps.put (λd hd=>(hdn d hd).2) v))
     ·have e5:((pre++r.take m)++[o]).length=pre.length+m+1:=by rw[Yae,hlen];rfl
      rw[e5] at hk2;simp only[Zhf,Yav];exact .inr hk2
     ·rw[ZaJ (by omega) false,hl];have e5:((pre++r.take m)++[o]).length=pre.length+m+1:=by rw[Yae,hlen];rfl
      rw[e5,hlen];by_cases hk5:k=pre.length+m
      ·rw[if_pos hk5];exact (decide_eq_true (by omega)).symm
      ·rw[if_neg hk5];by_cases hk6:k < pre.length+m
       ·rw[decide_eq_true hk6,decide_eq_true (by omega)]
       ·rw[decide_eq_false hk6,decide_eq_false (by omega)])
     (λd st' ch w2 hq hx=>hpost (.pan d) st' _ a' w2 hq hx hk)
    unfold Zu6 at hst;unfold wpOp;rw[hoi];simp only;split
    ·rename_i hw;rw[if_pos hw] at hst;exact .inl hst
    ·rename_i hw;rw[if_neg hw] at hst;exact hst
def ZyT:Option Nat->Bool
 | some p=>Nat.ble 9992 p
 | none=>false
def ZvI:Option Nat->Option Nat
 | some p=>bif Nat.ble 40000 p then some (p - 40000) else bif Nat.ble 20000 p then some (p - 20000) else bif Nat.beq p 9998 || Nat.beq p 9996 || Nat.beq p 9994 || Nat.beq p 9992 then some 2000 else none
 | none=>none
def ZsB [CA] (P:Program) (T:Tab) (F:FuncId->Bool) (G:Gl) (ops:Array Oper) (Q:Post) (pp:Option Nat) (env:Env) (h:Zad) (df:List Deferred):Prop :=
 bif ZyT pp then ∃ms:List Nat,(Zfo (ZvI pp) ops ops.toList [] [] && ZmM (Zhf 0 ms) ops.toList 0 [])=true/\ZBx (ZvI pp) P T F G ops Q (Q .normal) ms ops.toList [] env h df
 else (Zfo pp ops ops.toList [] []=true)/\Zmq P T F G pp (λdp=>∀(e:Env) (h:Zad),Q (.pan dp) ⟨e,h,df⟩) ops ops.toList [] [] [h] env df [] (Zhh T (Q .normal) ops.toList)
theorem Zpm [CA] (hT:TabOk P T) (hF:∀g,F g=true->fnOk P g=true) (hM:P.follows .mixedOrders=true) {id:Nat} {ops:Array Oper} (S:List Nat) (hs:∀k∈ZbC (.region id ops true),k < n) (hm:∀k∈ZbC (.region id ops true),inL S k=true)
  {env:Env} {hh:Zad} {df:List Deferred} {Q:Post} {pp:Option Nat} (h:ZsB P T F C.G ops Q pp env hh df) {a:Act} {w:World} (hr:Rel C n ⟨env,hh,df⟩ a w) :
  (Code.region id ops true).wp P (λe a' w'=>Keeps S a a'/\∃x st',Q x st'/\XOk e x st' a' w' C n) a w:=by
 have hatf:∀pp,Zfo pp ops ops.toList [] []=true->∀(i:Nat) (o:Oper),ops.toList[i]?=some o->(∀e∈Zab o,e < i)/\∀(k:Nat) (p:Oper),(ops.toList.take i)[k]?=some p->Zdk pp ops o p=true->Nat.testBit (ZaI (Zax (ops.toList.take i)) (Zab o)) k=true:=λpp hchk i o hi=>by have:=ZhR ops.toList [] (by simpa [Zax] using hchk) i o hi;simpa using this
 have hrd:Rel C n ⟨env,hh,df⟩ a { w with drawn:=w.drawn+1 }:=by obtain ⟨h1,h2,β,V,h3,h4⟩:=hr;exact ⟨h1,h2,β,V,h3.drew _,λs=>Zaa.mono (w:=w) (w':={ w with drawn:=w.drawn+1 }) (V:=V) (LeH.refl hh β) (λk hk=>⟨hk,rfl⟩) _ _ (h4 s)⟩
 have hrep:∀i,(Array.replicate ops.size false).getD i false=decide (i < ([]:List Oper).length):=λi=>by rw[Yat,Ya0];split<;>simp
 refine wp_region_any hM ?_;unfold ZsB at h;cases hsg:ZyT pp with
 | false =>
  rw[hsg] at h;obtain ⟨hchk,hv⟩:=h;refine Zjf hT hF S hs hm (Qp:=λdp=>∀(e:Env) (h:Zad),Q (.pan dp) ⟨e,h,df⟩) (hatf pp hchk) [] ops.toList [] (by simp) (by simpa [Zax,ZaX] using hv) (λo ho=>?_) (λi o hi hlt=>?_) (λdp e h' ch a' w' hq hx hk=>⟨hk,.pan dp,_,hq e h',hx⟩) (λfuel listed a' w' st hK hr hk hsz hl _=>?_) ops.size (Array.replicate ops.size false) a _ (by simp) (YaB YbL (by simp)) hrep hrd (Keeps.refl _ _)
  ·simp at ho
  ·have:=(Yaa.1 hi).1;simp at hlt;simp at this;omega
  ·have hrd0:Region.ready .any ops listed=[]:=by
    simp only[Region.ready,Ycb,YaZ];intro i hi;have:=hl i;rw[decide_eq_true (by simpa using hi)] at this;have hlt:listed.getD i true=true:=by rw[Yat] at this ⊢;rw[YaI (by omega)] at this ⊢;exact this
    rw[hlt];simp
   obtain ⟨st1,hr1,hK1⟩:=Zct ops.toList 0 (by simp) st hr hK;exact wpAny_done hrd0 ⟨hk,.normal,st1,hK1,hr1⟩ fuel
 | true =>rw[hsg] at h;obtain ⟨ms,hchk,hv⟩:=h;simp only[Yaf] at hchk;have hsc:=Zjg (ks:=Zhf 0 ms) ops.toList [] 0 (by simpa [Zax] using hchk.2) rfl;refine Zkx hT hF S hs hm (Q:=Q) (K:=Q .normal) (a:=a) (Zhf 0 ms) (hatf (ZvI pp) hchk.1) (λi o hi=>by have:=hsc i o hi;simpa using this) (λx st e a' w' hq hx hk=>⟨hk,x,st,by cases x<;>exact hq,hx⟩) ms ops.toList [] env hh df (by simp) (λk hk=>hk) hv ops.size (Array.replicate ops.size false) a _ (by simp) (YaB YbL (by simp)) hrep hrd (Keeps.refl _ _)
def caB:Option Nat->Bool
 | some p=>Nat.beq p 1999 || Nat.beq p 4000 || Nat.beq p 9997 || Nat.beq p 9996 || Nat.beq p 1997 || Nat.beq p 4002 || Nat.beq p 9993 || Nat.beq p 9992 || Nat.beq p 4500 || (Nat.ble 5600 p && Nat.ble p 5699) || (Nat.ble 40000 p && Nat.ble p 49999)
 | none=>false
def caF:Option Nat->Bool
 | some p=>(Nat.ble 3500 p && Nat.ble p 3999) || (Nat.ble 23500 p && Nat.ble p 23999) || Nat.beq p 1998 || Nat.beq p 4001 || Nat.beq p 9995 || Nat.beq p 9994 || Nat.beq p 1997 || Nat.beq p 4002 || Nat.beq p 9993 || Nat.beq p 9992 || Nat.beq p 5500 || (Nat.ble 5600 p && Nat.ble p 5699) || (Nat.ble 40000 p && Nat.ble p 49999)
 | none=>false
def caM:Option Nat->Bool
 | some p=>Nat.beq p 1500
 | none=>false
def caS:Option Nat->Bool
 | some p=>Nat.beq p 4500 || Nat.beq p 2500 || (Nat.ble 5600 p && Nat.ble p 5699) || (Nat.ble 40000 p && Nat.ble p 49999)
 | none=>false
theorem ZaC {ops:Array Oper} {listed:Array Bool} (hsz:listed.size=ops.size) {k:Nat}:k∈Region.ready .any ops listed↔k < ops.size/\listed.getD k false=false/\∀o,ops[k]?=some o->∀e∈Zab o,listed.getD e false=true:=by
 simp only[Region.ready,Yb5,YaZ,Yaf,YaN];constructor
 ·rintro ⟨hk,h1,h2⟩;refine ⟨hk,?_,λo ho e he=>?_⟩
  ·rw[Yat] at h1 ⊢;rw[YaI (by omega)] at h1 ⊢;exact h1
  ·rw[ho] at h2;simp only[Option.map_some,Option.getD_some] at h2;rw[YbO] at h2;simp only[Zab,YaP] at he;obtain ⟨x,hx,hxe⟩:=he;obtain ⟨q,hq,hqe⟩:=YaK hx;have:=h2 q (by simpa using hq);simp only[YaV,YaN] at this;have hqe':o.after[q]'(by simpa using hq)=x:=by simpa using hqe
   rw[hqe'] at this;have hbe:Region.binds .any x=true/\x.on=e:=by
    unfold Region.binds;cases hg:x.ground<;>rw[hg] at hxe<;>simp_all
   rcases this with h1 | h1
   ·rw[hbe.1] at h1;cases h1
   ·rw[hbe.2] at h1;exact h1
 ·rintro ⟨hk,h1,h2⟩;have hoi:ops[k]?=some ops[k]:=YaI hk;refine ⟨hk,?_,?_⟩
  ·rw[Yat] at h1 ⊢;rw[YaI (by omega)] at h1 ⊢;exact h1
  ·rw[hoi];simp only[Option.map_some,Option.getD_some];rw[YbO];intro q hq;simp only[YaV,YaN];by_cases hb:Region.binds .any ops[k].after[q]=true
   ·right;refine h2 _ hoi _ ?_;simp only[Zab,YaP];refine ⟨ops[k].after[q],by simp,?_⟩;unfold Region.binds at hb;cases hg:(ops[k].after[q]).ground<;>rw[hg] at hb<;>simp_all
   ·left;simpa using hb
inductive OT where
 | done
 | run (k:Nat) (t:OT)
 | two (s t:OT)
 | lead (k:Nat) (t:OT)
def ZrF:List Oper->Nat->Option Oper
 | [],_=>none
 | o :: _,0=>some o
 | _ :: l,k+1=>ZrF l k
theorem Zjr:∀(l:List Oper) (k:Nat),ZrF l k=l[k]?
 | [],_=>by simp[ZrF]
 | _ :: _,0=>by simp[ZrF]
 | _ :: l,k+1=>by simp[ZrF,Zjr l k]
def OT.heads:OT->List Nat
 | .done=>[]
 | .run k _=>[k]
 | .two s t=>s.heads++t.heads
 | .lead _ _=>[]
def Ztw:Op->Bool
 | .move _ | .assign _ | .fieldAddr _ _ _ | .nilCheck _=>true
 | _=>false
def ZoX:List Oper->Bool
 | []=>true
 | o :: l=>(match o.op with | .select _ _=>false | _=>true) && ZoX l
def Zsk (done:List Nat):List Nat->Bool
 | []=>true
 | e :: l=>inL done e && Zsk done l
theorem Zfu {done:List Nat}:∀{l:List Nat},Zsk done l=true↔∀e∈l,inL done e=true
 | []=>by simp[Zsk]
 | e :: l=>by simp[Zsk,Zfu (l:=l)]
def ZBj (hs done:List Nat):Nat->List Oper->Bool
 | _,[]=>true
 | i,o :: l=>(inL done i || inL hs i || !Zsk done (Zab o)) && ZBj hs done (i+1) l
def Zxp (L:List Oper) (done:List Nat) (k:Nat):Bool :=
 !inL done k && match ZrF L k with
 | none=>false
 | some o=>Zsk done (Zab o)
def ZwC (L:List Oper) (x:Oper) (k:Nat) (done:List Nat):Nat->List Oper->Bool
 | _,[]=>true
 | j,y :: l=>(Nat.beq j k || inL done j || inL (Zab y) k || x.apart ⟨L⟩ y) && ZwC L x k done (j+1) l
def ZAI (L:List Oper) (done:List Nat) (k:Nat):Bool :=
 match ZrF L k with
 | none=>false
 | some o=>Ztw o.op && (match o.guard with | none=>true | some _=>false) && ZwC L o k done 0 L
def ZzU (L:List Oper) (done:List Nat):OT->Bool
 | .lead _ _=>true
 | t=>ZBj t.heads done 0 L
def ZoU (L:List Oper):List Nat->OT->Bool
 | _,.done=>true
 | done,.run k t=>Zxp L done k && ZzU L (k :: done) t && ZoU L (k :: done) t
 | done,.two s t=>ZoU L done s && ZoU L done t
 | done,.lead k t=>Zxp L done k && ZAI L done k && ZzU L (k :: done) t && ZoU L (k :: done) t
def Zv0 (L:List Oper) (t:OT):Bool:=ZzU L [] t && ZoU L [] t
def ZeV:OT->Bool
 | .done=>true
 | .run _ t=>ZeV t
 | .two s t=>ZeV s && ZeV t
 | .lead _ _=>false
def Zvn (P:Program) (T:Tab) (F:FuncId->Bool) (G:Gl) (all:Array Oper) (K:St->Prop) (Q:Post) (L:List Oper) (t:OT):St->Prop :=
 OT.rec (motive:=λ_=>St->Prop) K (λk _ next st=>match ZrF L k with | some o=>Zi2 P T F G all o st next Q | none=>False) (λ_ _ s t st=>s st/\t st) (λk _ next st=>match ZrF L k with | some o=>Zi2 P T F G all o st next Q | none=>False) t
theorem ZuH {hs done:List Nat}:∀{l:List Oper} {i:Nat},ZBj hs done i l=true->∀(k:Nat) (o:Oper),l[k]?=some o->inL done (i+k)=false->(∀e∈Zab o,inL done e=true)->(i+k)∈hs
 | [],_,_,k,o,h,_,_=>by simp at h
 | x :: l,i,hc,k,o,hk,hn,he=>by
  simp only[ZBj,Yaf] at hc;cases k with
  | zero =>simp at hk;subst hk;have h1:=hc.1;rw[Zfu.2 he] at h1;rw[Nat.add_zero] at hn;rw[hn] at h1;simpa using ZbY.1 (by simpa using h1)
  | succ k =>have:=ZuH hc.2 k o (by simpa using hk) (by rw[show i+1+k=i+(k+1) from by omega];exact hn) he;rwa [show i+1+k=i+(k+1) from by omega] at this
theorem Zlf {all:Array Oper} {K:St->Prop} {Q:Post} {L:List Oper} {done:List Nat} (hno:∀k,Zxp L done k=false):∀(t:OT) (st:St),ZoU L done t=true->Zvn P T F C.G all K Q L t st->K st
 | .done,_,_,h=>h
 | .run k t,st,hi,_=>by
  simp only[ZoU,Yaf] at hi;rw[hno k] at hi;cases hi.1.1
 | .two s t,st,hi,h=>by simp only[ZoU,Yaf] at hi;exact Zlf hno s st hi.1 h.1
 | .lead k t,st,hi,_=>by
  simp only[ZoU,Yaf] at hi;rw[hno k] at hi;cases hi.1.1.1
theorem Zi3 {all:Array Oper} {K:St->Prop} {Q:Post} {L:List Oper} {done:List Nat} {k:Nat}:∀(t:OT) (st:St),ZoU L done t=true->Zvn P T F C.G all K Q L t st->k∈t.heads ->
  ∃o t',L[k]?=some o/\ZzU L (k :: done) t'=true/\(ZeV t=true->ZeV t'=true)/\ZoU L (k :: done) t'=true/\Zi2 P T F C.G all o st (Zvn P T F C.G all K Q L t') Q
 | .done,_,_,_,hk=>by simp[OT.heads] at hk
 | .run j t,st,hi,h,hk=>by
  simp only[OT.heads,Yay] at hk;subst hk;simp only[ZoU,Yaf] at hi;have h':(match ZrF L k with | some o=>Zi2 P T F C.G all o st (Zvn P T F C.G all K Q L t) Q | none=>False):=h;cases ho:ZrF L k with
  | none=>rw[ho] at h';exact h'.elim
  | some o=>rw[ho] at h';exact ⟨o,t,by rw[<- Zjr];exact ho,hi.1.2,id,hi.2,h'⟩
 | .two s t,st,hi,h,hk=>by
  simp only[OT.heads,Yao] at hk;simp only[ZoU,Yaf] at hi;rcases hk with hk | hk
  ·obtain ⟨o,t',a1,a2,a3,a4⟩:=Zi3 s st hi.1 h.1 hk;exact ⟨o,t',a1,a2,λhn=>a3 (by simp only[ZeV,Yaf] at hn;exact hn.1),a4⟩
  ·obtain ⟨o,t',a1,a2,a3,a4⟩:=Zi3 t st hi.2 h.2 hk;exact ⟨o,t',a1,a2,λhn=>a3 (by simp only[ZeV,Yaf] at hn;exact hn.2),a4⟩
 | .lead _ _,_,_,_,hk=>by simp[OT.heads] at hk
theorem Zzp {L:List Oper} {done:List Nat} {t:OT} (hc:ZzU L done t=true):(∃k t',t=.lead k t')\/ZBj t.heads done 0 L=true:=by
 cases t with
 | lead k t'=>exact .inl ⟨k,t',rfl⟩
 | _=>exact .inr hc
theorem Zqd:∀{L:List Oper},ZoX L=true->∀(j:Nat) (o:Oper) cs b,L[j]?=some o->o.op≠.select cs b
 | [],_,j,o,_,_,h=>by simp at h
 | x :: L,hn,j,o,cs,b,h=>by
  simp only[ZoX,Yaf] at hn;cases j with
  | zero =>
   simp at h;subst h;intro e;have h1:=hn.1;rw[e] at h1;cases h1
  | succ j=>exact Zqd hn.2 j o cs b (by simpa using h)
theorem Zqz {L:List Oper} {x:Oper} {k:Nat} {done:List Nat}:∀{l:List Oper} {i:Nat},ZwC L x k done i l=true->∀(j:Nat) (y:Oper),l[j]?=some y->i+j≠k->inL done (i+j)=false->k ∉ Zab y->x.apart ⟨L⟩ y=true
 | [],_,_,j,y,h,_,_,_=>by simp at h
 | z :: l,i,hf,j,y,hj,hne,hd,he=>by
  simp only[ZwC,Yaf] at hf;cases j with
  | zero =>
   simp at hj;subst hj;have h1:=hf.1;rw[Nat.add_zero] at hne hd;have e1:Nat.beq i k=false:=ZcR hne;have e2:inL (Zab z) k=false:=by
    cases hx:inL (Zab z) k with
    | false=>rfl
    | true=>exact absurd (ZbY.1 hx) he
   rw[e1,hd,e2] at h1;simpa using h1
  | succ j =>exact Zqz hf.2 j y (by simpa using hj) (by omega) (by rw[show i+1+j=i+(j+1) from by omega];exact hd) he
theorem ZyB (hT:TabOk P T) {o:Oper} {st:St} {a:Act} {w:World} {β:Nat->Value} {V:Nat->Prop} {K Qp:KD} (hr:RelD C st.h β V w) (he:ZbO st β V w a) (hk:Ztw o.op=true) (h:ZaK P T F C.G o.op st K Qp) :
  ∃v d,K d st.h/\Zaa st.h β V w d v/\∀w2,(execOp a.eval o).run P w2=.ok (.value v) w2:=by
 cases ho:o.op with
 | move x=>rw[ho] at h;exact ⟨_,_,h,he.eval hr.gl x,λw2=>by simp[execOp,ho]⟩
 | assign x=>rw[ho] at h;exact ⟨_,_,h,he.eval hr.gl x,λw2=>by simp[execOp,ho]⟩
 | nilCheck x =>
  rw[ho] at h;have hx:=he.eval hr.gl x;have fin:∀(d:D) (v:Value),K d st.h->a.eval x=v->Zaa st.h β V w d v->(∃ad,v=.pointer (some ad))\/(∃f us ts,v=.func (.func f) us ts)->∃v d,K d st.h/\Zaa st.h β V w d v/\∀w2,(execOp a.eval o).run P w2=.ok (.value v) w2:=by
   rintro d v k1 k2 k3 (⟨ad,rfl⟩ | ⟨f,us,ts,rfl⟩)
   ·exact ⟨_,d,k1,k3,λw2=>by simp[execOp,ho,k2]⟩
   ·exact ⟨_,d,k1,k3,λw2=>by simp[execOp,ho,k2]⟩
  simp only[ZaK] at h;split at h
  ·rename_i i off e;split at h
   ·rename_i cs ty hi;rw[e] at hx;have hx':=hx;simp only[Zaa,hi] at hx;obtain ⟨g,_,hv⟩:=hx;exact fin _ _ h rfl hx' (.inl ⟨_,hv⟩)
   ·exact h.elim
  ·rename_i i j off e;split at h
   ·rename_i xs ty sz hi;rw[e] at hx;have hx':=hx;simp only[Zaa,hi] at hx;obtain ⟨_,g,n,c,_,hv⟩:=hx;exact fin _ _ h rfl hx' (.inl ⟨_,hv⟩)
   ·exact h.elim
  ·rename_i r off e;rw[e] at hx;have hx':=hx;simp only[Zaa] at hx;obtain ⟨ad,hv,_⟩:=hx;exact fin _ _ h rfl hx' (.inl ⟨_,hv⟩)
  ·rename_i f fs cs e;rw[e] at hx;have hx':=hx;simp only[Zaa] at hx;obtain ⟨us,ts,hv,_⟩:=hx;exact fin _ _ h rfl hx' (.inr ⟨_,_,_,hv⟩)
  ·exact h.elim
 | fieldAddr s x f =>
  rw[ho] at h;have he':execOp a.eval o=(do pure (.value (<- Instr.fieldAt s (a.eval x) f))):=by simp[execOp,ho]
  have hx:=he.eval hr.gl x;simp only[ZaK] at h;split at h
  ·rename_i hs;split at h
   ·rename_i off sz hf;split at h
    ·rename_i i o' e;rw[e] at hx;split at h
     ·rename_i cs ty hi;simp only[Zaa,hi] at hx;obtain ⟨g,hb,hv⟩:=hx;refine ⟨.pointer (some ⟨g,o'+off,none⟩),_,h,by simp only[Zaa,hi];exact ⟨g,hb,rfl⟩,λw2=>?_⟩;rw[he',hv];simp[Zc4 hT hs rfl hf,Zcm]
     ·exact h.elim
    ·rename_i i j o' e;rw[e] at hx;split at h
     ·rename_i xs ty sz' hi;simp only[Zaa,hi] at hx;obtain ⟨hj,g,n,c,hb,hv⟩:=hx;refine ⟨.pointer (some ⟨g,j*sz'+o'+off,none⟩),_,h,by simp only[Zaa,hi];exact ⟨hj,g,n,c,hb,by rw[Ybc]⟩,λw2=>?_⟩;rw[he',hv];simp[Zc4 hT hs rfl hf,Zcm]
     ·exact h.elim
    ·rename_i r o' e;rw[e] at hx;simp only[Zaa] at hx;obtain ⟨ad,hv,hV,hrow⟩:=hx;refine ⟨.pointer (some ((ad.add o').add off)),_,h,by simp only[Zaa];exact ⟨ad,by rw[ZgB],hV,hrow⟩,λw2=>?_⟩;rw[he',hv];simp[Zc4 hT hs rfl hf]
    ·exact h.elim
   ·exact h.elim
  ·exact h.elim
 | _=>rw[ho] at hk;cases hk
theorem ZvU (hT:TabOk P T) {all:Array Oper} {o:Oper} {st:St} {a:Act} {w:World} {K:St->Prop} {Q:Post} (hr:Rel C n st a w) (hd:∀d,o.dst=some d->d < n) (hk:Ztw o.op=true) (hg:o.guard=none) (h:Zi2 P T F C.G all o st K Q) :
  ∃v st',K st'/\Rel C n st' (a.put o.dst v) w/\Yields P all o v a:=by
 obtain ⟨hsz,hdf,β,V,hrel,he⟩:=hr;obtain ⟨dst,op,ty,pos,aft,guard⟩:=o;simp only at hg hk hd;subst hg;have h1:Zhs P T F C.G op dst st K Q:=h;have hpre:ZvW C.G op st=λX=>X st:=by
  funext X;cases op<;>first | rfl | cases hk
 unfold Zhs at h1;rw[hpre] at h1;obtain ⟨env,hp,df⟩:=st;dsimp only at h1;obtain ⟨v,d,k1,k2,k3⟩:=ZyB (o:=⟨dst,op,ty,pos,aft,none⟩) hT hrel he hk h1;have hh:Zqq op d=false:=by cases op<;>first | rfl | cases hk
 rw[hh] at k1;have hy:Yields P all ⟨dst,op,ty,pos,aft,none⟩ v a:=.inl ⟨by simp[Region.wanted],k3⟩;cases dst with
 | none =>
  have k4:K ⟨env,hp,df⟩:=by simpa only[YcH,orS,cond_false,Zfk,Zdj] using k1
  exact ⟨v,_,k4,⟨hsz,hdf,β,V,hrel,he⟩,hy⟩
 | some i =>
  have k4:K ⟨env.set i d,hp,df⟩:=by simpa only[YcH,orS,cond_false,Zfk,Zdj] using k1
  exact ⟨v,_,k4,⟨by simpa [Act.put] using hsz,hdf,β,V,hrel,Zl4 he hsz (LeH.refl _ _) (ZaB.refl _ _) (hd i rfl) k2 df⟩,hy⟩
theorem ZvZ (hT:TabOk P T) (hF:∀g,F g=true->fnOk P g=true) {L:List Oper} {S:List Nat} {Q:Post} {K:St->Prop} {a0:Act} {Qa:Exit->Act->World->Prop}
  (hd:∀o∈L,∀d,o.dst=some d->d < n/\inL S d=true)
  (hK:∀st a w,K st->Rel C n st a w->Keeps S a0 a->Qa .normal a w) (hQ:∀d st ch a w,Q (.pan d) st->XOk (.panic ch) (.pan d) st a w C n->Keeps S a0 a->Qa (.panic ch) a w)
  (ld:Bool) (hld:ld=true->ZoX L=true/\∀ch a w,¬Qa (.panic ch) a w) :
  ∀(fuel:Nat) (listed:Array Bool) (done:List Nat) (t:OT) (st:St) (a:Act) (w:World),listed.size=L.length->(∀k,k < L.length->listed.getD k false=inL done k)->(∀k,inL done k=true->k < L.length)->(List.range L.length).countP (λi=>!listed.getD i false)<=fuel ->
   (ld || ZeV t)=true->ZzU L done t=true->ZoU L done t=true->Zvn P T F C.G ⟨L⟩ K Q L t st->Rel C n st a w->Keeps S a0 a->wpAny P .any ⟨L⟩ Qa fuel listed a w:=by
 intro fuel;have rdy:∀(listed:Array Bool) (done:List Nat),listed.size=L.length->(∀k,k < L.length->listed.getD k false=inL done k)->(∀k,inL done k=true->k < L.length)->∀k,k∈Region.ready .any ⟨L⟩ listed↔Zxp L done k=true:=by
  intro listed done hsz hag hlt k;have ag:∀k,listed.getD k false=inL done k:=λk=>by
   by_cases hk:k < L.length
   ·exact hag k hk
   ·rw[Yat,Array.getElem?_eq_none (by omega)];cases hx:inL done k with
    | false=>rfl
    | true=>exact absurd (hlt k hx) hk
  rw[ZaC (by exact hsz)];have e1:(⟨L⟩:Array Oper)[k]?=L[k]?:=by simp
  unfold Zxp;rw[e1,Zjr,ag];constructor
  ·rintro ⟨h1,h2,h3⟩;have ho:L[k]?=some L[k]:=Yaq h1;rw[h2,ho];simp only[YcI,Ycs];exact Zfu.2 (λe he=>by rw[<- ag];exact h3 _ ho e he)
  ·intro h;simp only[Yaf,YaN] at h;cases ho:L[k]? with
   | none=>rw[ho] at h;cases h.2
   | some o =>rw[ho] at h;refine ⟨(Yaa.1 ho).1,h.1,λo' ho' e he=>?_⟩;injection ho' with ho';subst ho';rw[ag];exact Zfu.1 h.2 e he
 induction fuel with
 | zero =>
  intro listed done t st a w hsz hag hlt hc _ hcov hin hv hr hk;have hno:Region.ready .any ⟨L⟩ listed=[]:=by rw[YaM];intro k hkr;have h0:=(ZaC (ops:=⟨L⟩) (by exact hsz)).1 hkr;have:0 < (List.range L.length).countP (λi=>!listed.getD i false):=List.countP_pos_iff.2 ⟨k,YaZ.2 h0.1,by rw[h0.2.1];rfl⟩;omega
  refine ⟨hno,hK st a w (Zlf (λk=>?_) t st hin hv) hr hk⟩;cases hx:Zxp L done k with
  | false=>rfl
  | true =>have:=(rdy listed done hsz hag hlt k).2 hx;rw[hno] at this;simp at this
 | succ fuel ih =>
  intro listed done t st a w hsz hag hlt hc hnl hcov hin hv hr hk;have upd:∀k,k < L.length->listed.getD k false=false->(listed.setIfInBounds k true).size=L.length/\(∀j,j < L.length->(listed.setIfInBounds k true).getD j false=inL (k :: done) j)/\(∀j,inL (k :: done) j=true->j < L.length)/\(List.range L.length).countP (λi=>!(listed.setIfInBounds k true).getD i false)<=fuel:=λk hkl h0=>by
   refine ⟨by simpa using hsz,λj hj=>?_,λj hj=>?_,?_⟩
   ·rw[ZaJ (by omega)];show _=bif Nat.beq k j then true else inL done j;by_cases e:j=k
    ·subst e;rw[if_pos rfl,YaO];rfl
    ·rw[if_neg e,hag j hj,ZcR (λh=>e h.symm)];rfl
   ·have:(bif Nat.beq k j then true else inL done j)=true:=hj;by_cases e:k=j
    ·omega
    ·rw[ZcR e] at this;exact hlt j this
   ·have:=ZfL (p:=λi=>!listed.getD i false) (q:=λi=>!(listed.setIfInBounds k true).getD i false) (i:=k) (List.range L.length) YcC (YaZ.2 hkl) (by simp only[h0];rfl) (by rw[ZaJ (by omega),if_pos rfl];rfl) (λj hj=>by rw[ZaJ (by omega),if_neg hj]);omega
  rcases Zzp hcov with ⟨k,t',rfl⟩ | hcov
  ·
   have hldt:ld=true:=by simpa [ZeV] using hnl
   obtain ⟨hns,hnp⟩:=hld hldt;simp only[ZoU,Yaf] at hin;obtain ⟨⟨⟨h1,h2⟩,h3⟩,h4⟩:=hin;have hkr:=(rdy listed done hsz hag hlt k).2 h1;have h0:=(ZaC (ops:=⟨L⟩) (by exact hsz)).1 hkr;have hkl:k < L.length:=h0.1;have hvv:(match ZrF L k with | some o=>Zi2 P T F C.G ⟨L⟩ o st (Zvn P T F C.G ⟨L⟩ K Q L t') Q | none=>False):=hv;unfold ZAI at h2;cases ho:ZrF L k with
   | none=>rw[ho] at hvv;exact hvv.elim
   | some o =>
    rw[ho] at hvv h2;simp only[Yaf] at h2;obtain ⟨⟨b1,b2⟩,b3⟩:=h2;have hoL:L[k]?=some o:=by rw[<- Zjr];exact ho
    have hom:o∈L:=YaL hoL;have hg:o.guard=none:=by
     cases hgg:o.guard with
     | none=>rfl
     | some _=>rw[hgg] at b2;cases b2
    obtain ⟨v,st',k1,k2,k3⟩:=ZvU (all:=⟨L⟩) hT hr (λd hd'=>(hd o hom d hd').1) b1 hg hvv;obtain ⟨p1,p2,p3,p4⟩:=upd k hkl h0.2.1;refine wpAny_first (md:=.any) (ops:=⟨L⟩) (i:=k) (oi:=o) (v:=v) (by simpa using hoL) (λj o cs b hj=>Zqd hns j o cs b (by simpa using hj)) (λc a w h=>absurd h (hnp c _ w)) fuel listed a w ?_ hkr k3
     (ih _ (k :: done) t' st' _ w p1 p2 p3 p4 (by rw[hldt];rfl) h3 h4 k1 k2 (hk.trans (Keeps.put (λd hd'=>(hd o hom d hd').2) v)))
    intro j oj hj hne hun hno;have hjl:j < L.length:=by have:=(Ya1.1 hj).1;exact this
    refine Zqz b3 j oj (by simpa using hj) (by omega) ?_ ?_
    ·rw[YaA,<- hag j hjl];rw[Yat] at hun ⊢;rw[YaI (by omega)] at hun ⊢;exact hun
    ·intro hin;simp only[Zab,YaP] at hin;obtain ⟨e,he,hee⟩:=hin;have hbe:Region.binds .any e=true/\e.on=k:=by
      unfold Region.binds;cases hg2:e.ground<;>rw[hg2] at hee<;>simp_all
     exact hno e (by simpa using he) hbe.1 hbe.2
  refine ⟨λhno=>hK st a w (Zlf (λk=>?_) t st hin hv) hr hk,λk hkr=>?_⟩
  ·cases hx:Zxp L done k with
   | false=>rfl
   | true =>have:=(rdy listed done hsz hag hlt k).2 hx;rw[hno] at this;simp at this
  have h0:=(ZaC (ops:=⟨L⟩) (by exact hsz)).1 hkr;have h1:=(rdy listed done hsz hag hlt k).1 hkr;have hkl:k < L.length:=h0.1;have hhead:k∈t.heads:=by
   have ho:L[k]?=some L[k]:=Yaq hkl;have:=ZuH hcov k L[k] ho (by rw[YaA,<- hag k hkl];exact h0.2.1) (λe he=>by
    unfold Zxp at h1;rw[Zjr,ho] at h1;simp only[Yaf] at h1;exact Zfu.1 h1.2 e he)
   rwa [YaA] at this
  obtain ⟨o,t',ho,c1,c1',c2,c3⟩:=Zi3 t st hin hv hhead;have hom:o∈L:=YaL ho;have hput:∀v,Keeps S a0 (a.put o.dst v):=λv=>hk.trans (Keeps.put (λd hd'=>(hd o hom d hd').2) v);obtain ⟨p1,p2,p3,p4⟩:=upd k hkl h0.2.1;have hst:=Zjq (all:=⟨L⟩) (next:=λa2 w2=>wpAny P .any ⟨L⟩ Qa fuel (listed.setIfInBounds k true) a2 w2) (Qa:=Qa) hT hF hr (λd hd'=>(hd o hom d hd').1) c3
   (λst' v w' hk' hr'=>ih _ (k :: done) t' st' _ w' p1 p2 p3 p4 (by rcases YaV _ _▸hnl with h | h;exact (by rw[h];rfl);rw[c1' h,Bool.or_true]) c1 c2 hk' hr' (hput v)) (λd st' ch w' hq hx=>hQ d st' ch a w' hq hx hk)
  unfold wpOp;have e1:(⟨L⟩:Array Oper)[k]?=some o:=by simpa using ho
  rw[e1];unfold Zu6 at hst;dsimp only;by_cases hw:Region.wanted o (yielded ⟨L⟩ a.tmps)=true
  ·rw[if_pos hw] at hst ⊢;exact .inl hst
  ·rw[if_neg hw] at hst ⊢;exact hst
def ZyU:Option Nat->Bool
 | some p=>Nat.beq p 60000
 | none=>false
def Zxx:Option Nat->Bool
 | some p=>Nat.beq p 60001
 | none=>false
def Zwb (Q:Post):Post:=λx st=>match x with
 | .pan _=>False
 | x=>Q x st
def Zxi (P:Program) (T:Tab) (F:FuncId->Bool) (G:Gl) (ops:Array Oper) (Q:Post) (pp:Option Nat) (env:Env) (h:Zad) (df:List Deferred):Prop :=
 bif ZyU pp then ∃t:OT,(Zv0 ops.toList t && ZeV t)=true/\Zvn P T F G ops (Q .normal) Q ops.toList t ⟨env,h,df⟩ else @ZsB (CA.mk (caB pp) (caF pp) (caM pp) (caS pp)) P T F G ops Q pp env h df
def ZBw (P:Program) (T:Tab) (F:FuncId->Bool) (G:Gl) (ops:Array Oper) (Q:Post) (pp:Option Nat) (env:Env) (h:Zad) (df:List Deferred):Prop :=
 bif Zxx pp then ∃t:OT,(Zv0 ops.toList t && ZoX ops.toList)=true/\Zvn P T F G ops (Q .normal) (Zwb Q) ops.toList t ⟨env,h,df⟩ else Zxi P T F G ops Q pp env h df
theorem ZtE (hT:TabOk P T) (hF:∀g,F g=true->fnOk P g=true) {id:Nat} {ops:Array Oper} (S:List Nat) (hs:∀k∈ZbC (.region id ops true),k < n) (hm:∀k∈ZbC (.region id ops true),inL S k=true)
  {st:St} {Q Q':Post} {t:OT} (hc:Zv0 ops.toList t=true) (hn:Q'=Q/\ZeV t=true\/Q'=Zwb Q/\ZoX ops.toList=true) (h:Zvn P T F C.G ops (Q .normal) Q' ops.toList t st) {a:Act} {w:World} (hr:Rel C n st a w) :
  wpAny P .any ops (λe a' w'=>Keeps S a a'/\∃x st',Q' x st'/\XOk e x st' a' w' C n) ops.size (Array.replicate ops.size false) a { w with drawn:=w.drawn+1 }:=by
 simp only[Zv0,Yaf] at hc;have hrd:Rel C n st a { w with drawn:=w.drawn+1 }:=by obtain ⟨h1,h2,β,V,h3,h4⟩:=hr;exact ⟨h1,h2,β,V,h3.drew _,λs=>Zaa.mono (w:=w) (w':={ w with drawn:=w.drawn+1 }) (V:=V) (LeH.refl st.h β) (λk hk=>⟨hk,rfl⟩) _ _ (h4 s)⟩
 have hnn:Q' .normal=Q .normal:=by rcases hn with ⟨rfl,_⟩ | ⟨rfl,_⟩<;>rfl
 have key:∀ld:Bool,(ld=true->ZoX ops.toList=true/\Q'=Zwb Q)->(ld || ZeV t)=true->wpAny P .any ops (λe a' w'=>Keeps S a a'/\∃x st',Q' x st'/\XOk e x st' a' w' C n) ops.size (Array.replicate ops.size false) a { w with drawn:=w.drawn+1 }:=λld h1 h2 =>
  ZvZ (L:=ops.toList) (K:=Q .normal) (Q:=Q') (a0:=a) (S:=S) hT hF (λo ho d hd=>by
   have:d∈ZbC (.region id ops true):=by simp only[ZbC,YaP];exact ⟨o,ho,hd⟩
   exact ⟨hs d this,hm d this⟩)
  (λst a w hq hr hk=>⟨hk,.normal,st,by rw[hnn];exact hq,hr⟩) (λd st ch a w hq hx hk=>⟨hk,.pan d,st,hq,hx⟩) ld (λhl=>⟨(h1 hl).1,by
   rintro ch a' w' ⟨_,x,st',hq,hx⟩;rw[(h1 hl).2] at hq;cases x<;>first | exact hq.elim | exact hx.elim⟩) ops.size (Array.replicate ops.size false) [] t st a _ (by simp) (λk hk=>by
   rw[Yat,Ya0];split<;>rfl) (λk hk=>by cases hk) (YaB YbL (by simp)) h2 hc.1 hc.2 h hrd (Keeps.refl _ _)
 rcases hn with ⟨_,hn⟩ | ⟨h1,h2⟩
 ·exact key false (λh=>by cases h) (by rw[hn];rfl)
 ·exact key true (λ_=>⟨h2,h1⟩) rfl
theorem Zk2 (hT:TabOk P T) (hF:∀g,F g=true->fnOk P g=true) (hM:P.follows .mixedOrders=true) {id:Nat} {ops:Array Oper} (S:List Nat) (hs:∀k∈ZbC (.region id ops true),k < n) (hm:∀k∈ZbC (.region id ops true),inL S k=true)
  {env:Env} {hh:Zad} {df:List Deferred} {Q:Post} (h:∃pp:Option Nat,ZBw P T F C.G ops Q pp env hh df) {a:Act} {w:World} (hr:Rel C n ⟨env,hh,df⟩ a w) :
  (Code.region id ops true).wp P (λe a' w'=>Keeps S a a'/\∃x st',Q x st'/\XOk e x st' a' w' C n) a w:=by
 obtain ⟨pp,h⟩:=h;unfold ZBw at h;cases hl:Zxx pp with
 | true =>rw[hl] at h;obtain ⟨t,hc,h⟩:=h;simp only[Yaf] at hc;refine Code.wp_mono ?_ (wp_region_any (id:=id) hM (ZtE hT hF (id:=id) S hs hm hc.1 (.inr ⟨rfl,hc.2⟩) h hr));rintro e a' w' ⟨hk,x,st',hq,hx⟩;exact ⟨hk,x,st',by cases x<;>first | exact hq | exact hq.elim,hx⟩
 | false =>
 rw[hl] at h
 replace h:Zxi P T F C.G ops Q pp env hh df:=h
 unfold Zxi at h;cases ha:ZyU pp with
 | true =>rw[ha] at h;obtain ⟨t,hc,h⟩:=h;simp only[Yaf] at hc;exact wp_region_any hM (ZtE hT hF (id:=id) S hs hm hc.1 (.inl ⟨rfl,hc.2⟩) h hr)
 | false =>rw[ha] at h;exact @Zpm P T F C n (CA.mk (caB pp) (caF pp) (caM pp) (caS pp)) hT hF hM id ops S hs hm env hh df Q pp h a w hr
end
end Go.Dm
