import Derived.Test.YthccmffgjchdmaaGreatDoorNDa2
namespace Go.Dm
open Go Go.Eng Go.RowKit
def Zd7 {α:Type} (z:α):List α->Nat->α
 | [],_=>z
 | a :: _,0=>a
 | _ :: l,n+1=>Zd7 z l n
class CA where
 b:Bool
 fl:Bool
 ms:Bool
 bs:Bool
def Zpn:Op->Bool
 | .call { callee:=.value _,.. }=>true
 | _=>false
def Zz7:Op->Bool
 | .alloc _=>true
 | _=>false
def ZCI:Op->Bool
 | .makeSlice _ _ _=>true
 | _=>false
def ZCJ:Op->Bool
 | .buildSlice _ _ _=>true
 | _=>false
def qMk [CA] (o:Op):Bool:=(CA.ms && ZCI o) || (CA.bs && ZCJ o)
def Zdt [CA] (o:Op):Bool:=(Zkq o && !(CA.fl && Zz7 o) && !qMk o) || (CA.b && Zpn o)
def ZkB [CA] (o:Oper):Bool:=CA.fl && Zz7 o.op && (match o.guard with | none=>true | _=>false)
def Zta:List Oper->Nat->Nat->Bool
 | [],_,c=>Nat.beq c 1
 | o :: l,s,c=>Zta l s (match o.dst with | some d=>bif Nat.beq d s then c+1 else c | none=>c)
def Zuy:Option Nat->Bool
 | some _=>true
 | none=>false
def Zro (T:Tab):Op->Bool
 | .alloc t=>match T t with | some _=>true | none=>false
 | _=>false
def ZBM (all:Array Oper):Option Nat->Bool
 | some s=>Zta all.toList s 0
 | none=>false
theorem Zvl [CA] {o:Op} (h:Zdt o=false) (hn:(CA.fl && Zz7 o)=false) (hm:qMk o=false):Zkq o=false:=by
 unfold Zdt at h;cases ha:Zkq o with
 | true=>rw[ha,hn,hm] at h;cases h
 | false=>rfl
theorem Zut [CA] {o:Oper} (h:ZkB o=true):Zdt o.op=false/\o.guard=none/\Zz7 o.op=true:=by
 unfold ZkB at h;simp only[Yag] at h;obtain ⟨⟨h1,h2⟩,h3⟩:=h;refine ⟨?_,?_,h2⟩
 ·unfold Zdt;rw[h1,h2];cases ho:o.op with
  | alloc t=>simp[Zpn]
  | _=>rw[ho] at h2;cases h2
 ·split at h3
  ·assumption
  ·cases h3
def frq (z:Bool) (n:Nat) (d:D) (h:Zae) (K:KD):Prop:=bif z then (∃h0 xs e sz,h=h0++[Obj.row xs e sz]/\d=.row h0.length/\h0.length=n/\K (.g (.sl sz xs)) h0) else K d h
def ZBy (P:Program) (T:Tab) (F:FuncId->Bool) (G:Gl) (o:Op) (st:St) (K:D->Prop):Prop :=
 ZaN P T F G o ⟨st.env,[],st.df⟩ (λ_ h=>match h with
  | [.row xs _ sz]=>K (.g (.sl sz xs))
  | _=>False) (λ_ _=>False)
theorem Zm5:∀{cs:List D} {ys:List GV},ZgQ [] cs ys->ZcT cs=[]
 | [],_,_=>rfl
 | d :: cs,[],h=>by simp only[ZgQ] at h
 | d :: cs,y :: ys,h=>by
  simp only[ZgQ] at h;have h2:=Zm5 h.2;have h1:=h.1;simp only[ZcT,h2,YaF];cases d<;>first | rfl | (simp[Zvn] at h1)
theorem ZkU {h':Zae}:∀{cs:List D} {ys:List GV},ZgQ [] cs ys->ZgQ h' cs ys
 | [],[],_=>trivial
 | [],_ :: _,h=>by simp only[ZgQ] at h
 | d :: cs,[],h=>by simp only[ZgQ] at h
 | d :: cs,y :: ys,h=>by
  simp only[ZgQ] at h ⊢;refine ⟨?_,ZkU h.2⟩;have h1:=h.1;cases d<;>first | exact h1 | (simp[Zvn] at h1)
theorem ZjY {h':Zae} {d:D} (h:Zep [] d=true):Zep h' d=true:=by
 cases d<;>first | exact h | (simp[Zep] at h)
theorem ZjX {h':Zae}:∀{cs:List D},ZhZ [] cs=true->ZhZ h' cs=true
 | [],_=>rfl
 | d :: cs,h=>by simp only[ZhZ,Yag] at h ⊢;exact ⟨ZjY h.1,ZjX h.2⟩
theorem Zoe {h':Zae} {d:D} {ds:List D} (h:Zfk [] d=some ds):Zfk h' d=some ds:=by
 have one:∀d:D,(bif Zep [] d then some [d] else none)=some ds->(bif Zep h' d then some [d] else none)=some ds:=λd h=>by
  cases hf:Zep [] d with
  | true=>rw[hf] at h;rw[ZjY hf];exact h
  | false=>rw[hf] at h;cases h
 cases d with
 | agg cs =>
  simp only[Zfk] at h ⊢;cases hf:ZhZ [] cs with
  | true=>rw[hf] at h;rw[ZjX hf];exact h
  | false=>rw[hf] at h;cases h
 | _=>(simp only[Zfk] at h ⊢;exact one _ h)
theorem Zii {h':Zae} {f:Operand->D}:∀{l:List (Nat × Operand)} {ps:List (Nat × List D)},ZcP [] f l=some ps->ZcP h' f l=some ps
 | [],_,h=>h
 | (i,o) :: l,ps,h=>by
  simp only[ZcP] at h ⊢;split at h
  ·rename_i ds r e1 e2;rw[Zoe e1,Zii e2];exact h
  ·cases h
theorem ZvE [CA] {P:Program} {T:Tab} {F:FuncId->Bool} {G:Gl} {o:Op} {st:St} {K:D->Prop} (hm:qMk o=true) (h:ZBy P T F G o st K):∃d,K d/\∀(h':Zae) (K':KD),K' d h'->ZaN P T F G o ⟨st.env,h',st.df⟩ (λd h=>frq true h'.length d h K') (λ_ _=>False):=by
 have gY:ZCI o=true\/ZCJ o=true:=by
  unfold qMk at hm;simp only[YaZ,Yag] at hm;rcases hm with hm | hm
  ·exact .inl hm.2
  ·exact .inr hm.2
 unfold ZBy at h;have aX:∀(h':Zae),sv G ⟨st.env,h',st.df⟩=sv G st:=λh'=>funext (λx=>by cases x<;>rfl);cases o with
 | makeSlice t l c =>
  simp only[ZaN,aX] at h ⊢;split at h
  ·split at h
   ·rename_i ei aO;cases hb:Nat.blt 0 ei.size with
    | false=>rw[hb] at h;exact h.elim
    | true =>rw[hb] at h;obtain ⟨len,cap,z,h1,h2,h3,h4,h5,h6,h7⟩:=h;exact ⟨_,h7,λh' K' hk=>⟨len,cap,z,h1,h2,h3,h4,h5,h6,h',_,_,_,rfl,rfl,rfl,hk⟩⟩
   ·exact h.elim
  ·exact h.elim
 | buildSlice t len parts =>
  simp only[ZaN,aX] at h ⊢;split at h
  ·rename_i e he;split at h
   ·rename_i ei aO;split at h
    ·cases h
    ·rename_i ps eG;split at h
     ·rename_i cs aU;cases hb:(Nat.ble (len*ei.size) 16777216 && Nat.blt 0 ei.size) with
      | false=>rw[hb] at h;exact h.elim
      | true =>rw[hb] at h;obtain ⟨xs,h1,h2,h3,h4⟩:=h;have hi:=Zm5 h3;rw[hi] at h4;refine ⟨_,h4,λh' K' hk=>?_⟩;simp only[Zii (h':=h') eG,aU];exact ⟨xs,h1,h2,ZkU h3,h',xs,_,_,by rw[hi];rfl,rfl,rfl,hk⟩
     ·exact h.elim
   ·exact h.elim
  ·exact h.elim
 | _=>rcases gY with gY | gY<;>cases gY
def Zs1 (P:Program) (F:FuncId->Bool) (G:Gl) (f:Operand) (args:Array Operand) (st:St) (K:KD):Prop :=
 match sv G st f with
 | .fn g fs cs=>bif F g then Zcd (fs++(args.toList.map (sv G st)++cs)) λall =>
   ∃es d0 h0,Ze0 (all.map (conv st.h [] 4)) es/\CT P G g es (λo=>o=.ret d0 h0)/\(Zsd (ZcT all)=true)/\K (sh st.h.length 4 d0) (after st.h [] d0 h0) else False
 | _=>False
def vcA (P:Program) (T:Tab) (F:FuncId->Bool) (G:Gl) (o:Op) (st:St) (K:KD):Prop :=
 match o with
 | .call { callee:=.value f,args,.. }=>Zs1 P F G f args st K
 | o=>ZaN P T F G o st K (λ_ _=>False)
theorem ZzZ [CA] {P:Program} {T:Tab} {F:FuncId->Bool} {G:Gl} {o:Op} {st:St} {K:KD} (ha:Zdt o=true) (h:vcA P T F G o st K):∃d h1,K d h1/\(∀K':KD,K' d h1->ZaN P T F G o st K' (λ_ _=>False))/\(Zd8 o=false->Ex st.h h1):=by
 unfold vcA at h;split at h
 ·rename_i f args ts;unfold Zs1 at h;split at h
  ·rename_i g fs cs ef;cases hg:F g with
   | false=>rw[hg] at h;exact h.elim
   | true =>
    rw[hg] at h;simp only[cond_true,Zba] at h;obtain ⟨es,d0,h0,h1,h2,h3,h4⟩:=h;have hi:ZcT (fs++(args.toList.map (sv G st)++cs))=[]:=by
     cases hi:ZcT (fs++(args.toList.map (sv G st)++cs)) with
     | nil=>rfl
     | cons x l=>rw[hi] at h3;cases h3
    refine ⟨_,_,h4,λK' hk=>?_,λ_=>?_⟩
    ·simp only[ZaN,ef,hg,cond_true,Zba];refine ZrX ⟨es,_,h1,h2,λd' qf hq=>?_,λd' hq=>(by cases hq)⟩;injection hq with e1 e2;subst e1;subst e2;rw[hi];exact hk
    ·unfold after;cases ZcQ 4 d0 && Zsd h0 with
     | true=>exact Ex.refl _
     | false=>exact Ex.app _ _
  ·exact h.elim
 ·rename_i aC;refine ZsI ?_ h;unfold Zdt at ha;cases wY:Zkq o with
  | true=>rfl
  | false =>
   rw[wY] at ha;simp only[Yb9,Bool.false_or,Yag] at ha;exfalso;obtain ⟨_,ha⟩:=ha;unfold Zpn at ha;split at ha
   ·rename_i f args ts;exact aC f args ts rfl
   ·cases ha
def Zac (o:Oper):List Nat:=o.after.toList.filterMap λe=>match e.ground with
 | .textOnly _=>none
 | .gcOnly _=>none
 | _=>some e.on
def ZaP (acc:List Nat):List Nat->Nat
 | []=>0
 | j :: l=>(2 ^ j) ||| (Zd7 0 acc j) ||| ZaP acc l
def Zuu:Op->Bool
 | .buildSlice _ _ _=>true
 | _=>false
def ZnH:Option Nat->Bool
 | some p=>Nat.ble 2000 p
 | none=>false
def ZqD:Option Nat->Bool
 | some p=>Nat.ble 5000 p
 | none=>false
def ZlY (lt:Option Nat) (o:Op):Bool:=Zd8 o && !(ZnH lt && Zuu o)
def hpl (lt:Option Nat) (o:Op):Bool:=Zmi o || ZqD lt
def Zqv (c:Bool) (h0 h:Zae) (X:Prop):Prop:=bif c then (∃k,h=h0++k)/\X else X
theorem Zqu {c:Bool} {h0 h:Zae} {X:Prop} (hx:Zqv c h0 h X):X:=by
 cases c with
 | true=>exact hx.2
 | false=>exact hx
def Zz9 [CA] (lt:Option Nat) (o:Oper):Bool:=hpl lt o.op || ZkB o
def Zdp [CA] (lt:Option Nat) (all:Array Oper) (o p:Oper):Bool :=
 (match o.dst with | some d=>inL (p.looksAt all) d || (match p.dst with | some e=>Nat.beq d e | none=>false) | none=>false) ||
 (match p.dst with | some d=>inL (o.looksAt all) d | none=>false) ||
 (Zdt o.op && Zdt p.op) || (ZlY lt o.op && !Zz9 lt p) || (ZlY lt p.op && !Zz9 lt o)
def ZAQ [CA] (lt:Option Nat) (all:Array Oper) (row:Nat) (o:Oper):Nat->List Oper->Bool
 | _,[]=>true
 | j,p :: l=>(!Zdp lt all o p || Nat.testBit row j) && ZAQ lt all row o (j+1) l
def ZfN [CA] (lt:Option Nat) (all:Array Oper):List Oper->List Oper->List Nat->Bool
 | [],_,_=>true
 | o :: r,pre,acc=>Zhx pre.length (Zac o) && ZAQ lt all (ZaP acc (Zac o)) o 0 pre && ZfN lt all r (pre++[o]) (acc++[ZaP acc (Zac o)])
def Za6 [CA]:List Oper->Nat
 | []=>0
 | o :: l=>bif Zdt o.op then Za6 l+1 else Za6 l
def Zdl [CA] (p:Nat->Bool):Nat->List Oper->Nat->Nat
 | _,[],bW=>bW
 | j,o :: l,bW=>Zdl p (j+1) l (bif Zdt o.op && p j then j+1 else bW)
def ZpF [CA] (row:Nat) (pre:List Oper):Nat:=Za6 (pre.take (Zdl (Nat.testBit row) 0 pre 0))
def ZgR (e:Env) (dst:Option Nat) (d:D):Env:=match dst with
 | some i=>e.set i d
 | none=>e
def Zs0 (P:Program) (F:FuncId->Bool) (G:Gl) (f:Operand) (args:Array Operand) (st:St) (Qp:D->Prop) (K:D->Prop):Prop :=
 match sv G st f with
 | .fn g fs cs=>bif F g then Zcd (fs++(args.toList.map (sv G st)++cs)) λall =>
   ∃as d dp,Ze0 (all.map (conv [] [] 4)) as/\CT P G g as (λo=>o=.pan dp)/\(Zsd (ZcT all)=true)/\Qp dp/\K d else False
 | _=>False
def vcP (P:Program) (F:FuncId->Bool) (G:Gl) (o:Op) (st:St) (Qp:D->Prop) (K:D->Prop):Prop :=
 match o with
 | .call { callee:=.value f,args,.. }=>Zs0 P F G f args st Qp K
 | _=>False
theorem Zyd {P:Program} {T:Tab} {F:FuncId->Bool} {G:Gl} {o:Op} {st:St} {Qp K:D->Prop} (h:vcP P F G o st Qp K):∃d,K d/\∀h':Zae,ZaN P T F G o ⟨st.env,h',st.df⟩ (λ_ _=>False) (λdp _=>Qp dp):=by
 have aX:∀(h':Zae),sv G ⟨st.env,h',st.df⟩=sv G st:=λh'=>funext (λx=>by cases x<;>rfl);unfold vcP at h;split at h
 ·rename_i f args ts;unfold Zs0 at h;split at h
  ·rename_i g fs cs ef;cases hg:F g with
   | false=>rw[hg] at h;exact h.elim
   | true =>
    rw[hg] at h;simp only[cond_true,Zba] at h;obtain ⟨es,d,dp,h1,h2,h3,h4,h5⟩:=h;refine ⟨d,h5,λh'=>?_⟩;simp only[ZaN,aX,ef,hg,cond_true,Zba];have hi:ZcT (fs++(args.toList.map (sv G st)++cs))=[]:=by
     cases hi:ZcT (fs++(args.toList.map (sv G st)++cs)) with
     | nil=>rfl
     | cons x l=>rw[hi] at h3;cases h3
    refine ZrX ⟨es,_,by rw[Zrg (h:=[]) (h':=h') (λi o hi=>by simp at hi) (by rw[hi];rfl)];exact h1,h2,λd' qf hq=>(by cases hq),λd' hq=>?_⟩;injection hq with e1;subst e1;exact h4
  ·exact h.elim
 ·exact h.elim
def ZCh:Option Nat->Nat->Bool
 | some p,i=>Nat.beq p i
 | none,_=>false
def ZCg:Option Nat->Nat->Bool
 | some p,i=>Nat.beq p (1000+i) || Nat.beq p (3000+i) || Nat.beq p (3500+i) || Nat.beq p (5600+i)
 | none,_=>false
def frz (z:Bool) (n:Nat) (d:D) (h:Zae) (K:KD):Prop:=bif z then (match d with
 | .row i=>match h[i]? with
  | some (.row xs _ sz)=>bif Nat.beq i n then K (.g (.sl sz xs)) (Zb4 h [i]) else False
  | _=>False
 | _=>False) else K d h
theorem Zmm {n:Nat} {d:D} {h:Zae} {K:KD} (hk:frz true n d h K):∃xs e sz,d=.row n/\h[n]?=some (.row xs e sz)/\K (.g (.sl sz xs)) (Zb4 h [n]):=by
 unfold frz at hk;simp only[cond_true] at hk;split at hk
 ·rename_i i;split at hk
  ·rename_i xs e sz hi;cases hb:Nat.beq i n with
   | false=>rw[hb] at hk;exact hk.elim
   | true =>rw[hb] at hk;have:=Yaq hb;subst this;exact ⟨xs,e,sz,rfl,hi,hk⟩
  ·exact hk.elim
 ·exact hk.elim
theorem ZBe {n:Nat} {h:Zae} {K:KD} {xs:List (List GV)} {e:TypeId} {sz:Nat} (hi:h[n]?=some (.row xs e sz)) (hk:K (.g (.sl sz xs)) (Zb4 h [n])):frz true n (.row n) h K:=by unfold frz;simp only[cond_true,hi,YaY];exact hk
theorem ZBf {h h1:Zae} (hx:Ex h h1):Ex h (Zb4 h1 [h.length]):=λi o hi=>by have hl:i < h.length:=(Yac.1 hi).1;simp only[Zb4];rw[YaV (by omega)];exact hx i o hi
def Zlc:List Nat->Nat->Bool
 | [],_=>false
 | p :: l,row=>Nat.testBit row p || Zlc l row
theorem Zob:∀{l:List Nat} {row:Nat},Zlc l row=true->∃p∈l,Nat.testBit row p=true
 | [],_,h=>by cases h
 | p :: l,row,h=>by
  simp only[Zlc,YaZ] at h;rcases h with h | h
  ·exact ⟨p,Yae,h⟩
  ·obtain ⟨q,hq,hb⟩:=Zob h;exact ⟨q,Yad _ hq,hb⟩
def ZsX [CA] (P:Program) (T:Tab) (F:FuncId->Bool) (G:Gl) (pp:Option Nat) (Qp:D->Prop) (all:Array Oper) (o:Oper) (jM:List Oper->List Nat->List Zae->Env->List Deferred->List Nat->(St->Prop)->Prop)
  (pre:List Oper) (acc:List Nat) (hs:List Zae) (env:Env) (df:List Deferred) (pn:List Nat) (K:St->Prop):Prop :=
 bif ZkB o then (bif Zuy o.dst && ZBM all o.dst && Zro T o.op then jM (pre++[o]) (acc++[ZaP acc (Zac o)]) hs (ZgR env o.dst .any) df pn K else False)
 else bif CA.fl && Zz7 o.op then False else
  let run:Env->Prop:=λenv =>
   bif Zdt o.op then vcA P T F G o.op ⟨env,Zd7 [] hs (Za6 pre),df⟩ (λd h=>frz (ZCg pp pre.length) (Zd7 [] hs (Za6 pre)).length d h λd h=>Zqv (ZnH pp && Zuu o.op) (Zd7 [] hs (Za6 pre)) h (Zfi d λd=>ZeH h λh=>jM (pre++[o]) (acc++[ZaP acc (Zac o)]) (hs++[h]) (ZgR env o.dst d) df pn K))
   else bif Zlc pn (ZaP acc (Zac o)) then ∃d,jM (pre++[o]) (acc++[ZaP acc (Zac o)]) hs (ZgR env o.dst d) df pn K
   else bif ZCh pp pre.length then vcP P F G o.op ⟨env,Zd7 [] hs (ZpF (ZaP acc (Zac o)) pre),df⟩ Qp (λd=>Zfi d λd=>jM (pre++[o]) (acc++[ZaP acc (Zac o)]) hs (ZgR env o.dst d) df (pre.length :: pn) K)
   else bif qMk o.op then ZBy P T F G o.op ⟨env,[],df⟩ (λd=>Zfi d λd=>jM (pre++[o]) (acc++[ZaP acc (Zac o)]) hs (ZgR env o.dst d) df pn K)
   else vcQ P T F G o.op ⟨env,bif ZqD pp then [] else Zd7 [] hs (ZpF (ZaP acc (Zac o)) pre),df⟩ (λd=>Zfi d λd=>jM (pre++[o]) (acc++[ZaP acc (Zac o)]) hs (ZgR env o.dst d) df pn K)
  let skip:Env->Prop:=λenv=>jM (pre++[o]) (acc++[ZaP acc (Zac o)]) (bif Zdt o.op then hs++[Zd7 [] hs (Za6 pre)] else hs) (ZgR env o.dst (.tuple [])) df pn K
  match o.guard with
  | none=>run env
  | some (j,b)=>match (all[j]?).bind (·.dst) with
   | none=>skip env
   | some s=>match env s with
    | .g (.bool true)=>bif b then run env else skip env
    | .g (.bool false)=>bif b then skip env else run env
    | .tuple _=>skip env
    | .pb p=>bif b then (p->run (env.set s (.g (.bool true))))/\(¬p->skip (env.set s (.g (.bool false))))
     else (p->skip (env.set s (.g (.bool true))))/\(¬p->run (env.set s (.g (.bool false))))
    | .pn p=>bif b then (¬p->run (env.set s (.g (.bool true))))/\(p->skip (env.set s (.g (.bool false))))
     else (¬p->skip (env.set s (.g (.bool true))))/\(p->run (env.set s (.g (.bool false))))
    | _=>False
def ZmK [CA] (P:Program) (T:Tab) (F:FuncId->Bool) (G:Gl) (pp:Option Nat) (Qp:D->Prop) (all:Array Oper) (l:List Oper):List Oper->List Nat->List Zae->Env->List Deferred->List Nat->(St->Prop)->Prop :=
 List.rec (motive:=λ_=>List Oper->List Nat->List Zae->Env->List Deferred->List Nat->(St->Prop)->Prop)
  (λpre _ hs env df pn K=>match pn with
   | []=>K ⟨env,Zd7 [] hs (Za6 pre),df⟩
   | _=>True)
  (λo _ jM=>ZsX P T F G pp Qp all o jM) l
theorem ZvF [CA] {P:Program} {T:Tab} {F:FuncId->Bool} {G:Gl} {pp:Option Nat} {Qp:D->Prop} {all:Array Oper} {pre:List Oper} {acc:List Nat} {hs:List Zae} {env:Env} {df:List Deferred} {pn:List Nat} {K:St->Prop} :
  ZmK P T F G pp Qp all [] pre acc hs env df pn K=match pn with | []=>K ⟨env,Zd7 [] hs (Za6 pre),df⟩ | _=>True:=rfl
theorem Zji [CA] {P:Program} {T:Tab} {F:FuncId->Bool} {G:Gl} {pp:Option Nat} {Qp:D->Prop} {all:Array Oper} {o:Oper} {r pre:List Oper} {acc:List Nat} {hs:List Zae} {env:Env} {df:List Deferred} {pn:List Nat} {K:St->Prop} :
  ZmK P T F G pp Qp all (o :: r) pre acc hs env df pn K=ZsX P T F G pp Qp all o (ZmK P T F G pp Qp all r) pre acc hs env df pn K:=rfl
structure Fact where
 d:D
 L:Env
 run:Bool
 pn:Bool
 dd:Bool
def TB (d:D) (b:Bool):Prop:=(∃p,d=.pb p/\(b=true↔p))\/(∃p,d=.pn p/\(b=true↔¬p))
def Ref (E L:Env):Prop:=∀s,L s=E s\/∃b,L s=.g (.bool b)/\TB (E s) b
theorem Ref.refl (E:Env):Ref E E:=λ_=>.inl rfl
theorem Ref.set {E L:Env} (h:Ref E L) (dst:Option Nat) (d:D):Ref (ZgR E dst d) (ZgR L dst d):=by
 cases dst with
 | none=>exact h
 | some i =>
  intro s;simp only[ZgR,Env.set];cases Nat.beq s i with
  | true=>exact .inl rfl
  | false=>exact h s
theorem Ref.bool {E L:Env} (h:Ref E L) {s:Nat} {b:Bool} (ht:TB (L s) b):Ref E (L.set s (.g (.bool b))):=by
 intro k;simp only[Env.set];by_cases hk:k=s
 ·subst hk;rw[YaY];refine .inr ⟨b,rfl,?_⟩;rcases h k with e | ⟨c,e,_⟩
  ·rw[<- e];exact ht
  ·rw[e] at ht;rcases ht with ⟨p,e,_⟩ | ⟨p,e,_⟩<;>cases e
 ·rw[Zc5 hk];exact h k
theorem Ref.rep {E L:Env} (h:Ref E L) {H:Zae} {β:Nat->Value} {V:Nat->Prop} {w:World} {s:Nat} {v:Value} (hr:Zab H β V w (E s) v):Zab H β V w (L s) v:=by
 rcases h s with e | ⟨b,e,ht⟩
 ·rw[e];exact hr
 ·rw[e];rcases ht with ⟨p,e',hp⟩ | ⟨p,e',hp⟩
  ·rw[e'] at hr;simp only[Zab,ZaS] at hr ⊢;obtain ⟨c,hv,hc⟩:=hr;have:c=b:=by have:=hc.trans hp.symm;cases b<;>cases c<;>simp_all
   rw[hv,this]
  ·rw[e'] at hr;simp only[Zab,ZaS] at hr ⊢;obtain ⟨c,hv,hc⟩:=hr;have:c=b:=by have:=hc.trans hp.symm;cases b<;>cases c<;>simp_all
   rw[hv,this]
def Zeu (all:Array Oper) (o:Oper) (f:Fact):Prop:=match o.guard with
 | none=>f.run=true
 | some (j,b)=>match (all[j]?).bind (·.dst) with
  | none=>f.run=false
  | some s=>(∃c,f.L s=.g (.bool c)/\f.run=(c == b))\/(∃l,f.L s=.tuple l/\f.run=false)
structure FactAt [CA] (lt:Option Nat) (P:Program) (T:Tab) (F:FuncId->Bool) (G:Gl) (Qp:D->Prop) (all:Array Oper) (o:Oper) (f:Fact) (E:Env) (H:Nat->Zae) (na lo:Nat) (df:List Deferred):Prop where
 ref:Ref E f.L
 guard:Zeu all o f
 dead:f.dd=true->f.run=true/\Zdt o.op=false
 skip:f.run=false->f.d=.tuple []/\(Zdt o.op=true->H (na+1)=H na)
 act:f.run=true->Zdt o.op=true->(∃z:Bool,∀K':KD,K' f.d (H (na+1))->ZaN P T F G o.op ⟨f.L,H na,df⟩ (λd h=>frz z (H na).length d h K') (λ_ _=>False))/\(ZlY lt o.op=false->Ex (H na) (H (na+1)))
 pan:f.pn=true->f.run=true/\Zdt o.op=false/\∀h':Zae,ZaN P T F G o.op ⟨f.L,h',df⟩ (λ_ _=>False) (λdp _=>Qp dp)
 quiet:ZkB o=false->f.run=true->Zdt o.op=false->f.pn=false->f.dd=false->∃z:Bool,∀(h':Zae) (K':KD),(Ex (H lo) h'\/hpl lt o.op=true)->K' f.d h'->ZaN P T F G o.op ⟨f.L,h',df⟩ (λd h=>frq z h'.length d h K') (λ_ _=>False)
 flt:ZkB o=true->f.d=.any/\f.run=true/\f.pn=false/\f.dd=false/\(Zuy o.dst && ZBM all o.dst && Zro T o.op)=true
def foldE (E:Env):List Oper->List Fact->Env
 | o :: r,f :: fs=>foldE (ZgR E o.dst f.d) r fs
 | _,_=>E
theorem Zhc {α:Type} {z:α}:∀{l m:List α} {i:Nat},i < l.length->Zd7 z (l++m) i=Zd7 z l i
 | [],_,_,h=>by simp at h
 | a :: l,m,0,_=>rfl
 | a :: l,m,i+1,h=>by simp only[List.cons_append,Zd7];exact Zhc (by simpa using h)
theorem Zhb {α:Type} {z:α}:∀{l:List α} {a:α} {m:List α},Zd7 z (l++a :: m) l.length=a
 | [],a,m=>rfl
 | b :: l,a,m=>by simp only[List.cons_append,List.length_cons,Zd7];exact Zhb
theorem ZcW [CA]:∀(pre:List Oper) (o:Oper),Za6 (pre++[o])=bif Zdt o.op then Za6 pre+1 else Za6 pre
 | [],o=>by simp[Za6]
 | p :: pre,o=>by
  simp only[List.cons_append,Za6,ZcW pre o];cases Zdt p.op<;>cases Zdt o.op<;>rfl
theorem Zec [CA]:∀(l:List Oper) (k:Nat),Za6 (l.take k)<=Za6 l
 | [],k=>by simp
 | o :: l,0=>by simp[Za6]
 | o :: l,k+1=>by
  have:=Zec l k;simp only[List.take_succ_cons,Za6];cases Zdt o.op<;>simp<;>omega
theorem ZzN [CA] (row:Nat) (l:List Oper):ZpF row l<=Za6 l:=Zec _ _
theorem Zhf [CA] {p:Nat->Bool}:∀(l:List Oper) (j bW k:Nat) (o:Oper),l[k]?=some o->Zdt o.op=true->p (j+k)=true->j+k < Zdl p j l bW
 | [],_,_,_,_,h,_,_=>by simp at h
 | o :: l,j,bW,0,o',h,ha,hp=>by
  simp at h;subst h;have mono:∀(l:List Oper) (j b:Nat),b<=j->b<=Zdl p j l b:=by
   intro l
   induction l with
   | nil=>intro j b _;exact Yas _
   | cons o l ih =>
    intro j b hb;simp only[Zdl];cases Zdt o.op && p j with
    | true=>simp only[cond_true];exact YaC (by omega) (ih (j+1) (j+1) (Yas _))
    | false=>simp only[cond_false];exact ih (j+1) b (by omega)
  simp only[Zdl,ha,Ycc];rw[Nat.add_zero] at hp ⊢;rw[hp];simp only[cond_true];exact mono l (j+1) (j+1) (Yas _)
 | o :: l,j,bW,k+1,o',h,ha,hp=>by simp only[Zdl];have:=Zhf l (j+1) (bif Zdt o.op && p j then j+1 else bW) k o' (by simpa using h) ha (by rw[show j+1+k=j+(k+1) from by omega];exact hp);omega
theorem ZcJ [CA] {p:Nat->Bool}:∀(l:List Oper) (j bW:Nat),Zdl p j l bW=bW\/∃k o,l[k]?=some o/\Zdt o.op=true/\p (j+k)=true/\Zdl p j l bW=j+k+1
 | [],_,_=>.inl rfl
 | o :: l,j,bW=>by
  simp only[Zdl];rcases ZcJ l (j+1) (bif Zdt o.op && p j then j+1 else bW) with h | ⟨k,o',h1,h2,h3,h4⟩
  ·cases hc:Zdt o.op && p j with
   | true =>rw[hc] at h;simp only[Yag] at hc;exact .inr ⟨0,o,rfl,hc.1,hc.2,by simpa using h⟩
   | false=>rw[hc] at h;exact .inl h
  ·exact .inr ⟨k+1,o',by simpa using h1,h2,by rw[show j+(k+1)=j+1+k from by omega];exact h3,by rw[h4];omega⟩
theorem ZjM [CA] {p q:Nat->Bool}:∀(l:List Oper) (j bW:Nat),(∀(k:Nat) (o:Oper),l[k]?=some o->Zdt o.op=true->p (j+k)=q (j+k))->Zdl p j l bW=Zdl q j l bW
 | [],_,_,_=>rfl
 | o :: l,j,bW,h=>by
  simp only[Zdl];have h0:(Zdt o.op && p j)=(Zdt o.op && q j):=by
   cases ha:Zdt o.op with
   | false=>rfl
   | true=>have:=h 0 o rfl ha;simpa using this
  rw[h0];exact ZjM l (j+1) _ (λk o' hk ha=>by rw[show j+1+k=j+(k+1) from by omega];exact h (k+1) o' (by simpa using hk) ha)
def ZaF (l:List Oper):List Nat:=l.foldl (λacc o=>acc++[ZaP acc (Zac o)]) []
theorem Zgh (l:List Oper) (o:Oper):ZaF (l++[o])=ZaF l++[ZaP (ZaF l) (Zac o)]:=by simp[ZaF,List.foldl_append]
section
variable {P:Program} {T:Tab} {F:FuncId->Bool} {G:Gl} {all:Array Oper}
theorem Zry [CA] {pp:Option Nat} {Qp:D->Prop}:∀(r pre:List Oper) (hs:List Zae) (E env:Env) (df:List Deferred) (pn:List Nat) (K:St->Prop),ZmK P T F G pp Qp all r pre (ZaF pre) hs env df pn K->Ref E env->hs.length=Za6 pre+1 ->
  ∃(fs:List Fact) (jv:List Zae) (L:Env),fs.length=r.length/\Ref (foldE E r fs) L/\(pn=[]->(∀f∈fs,f.pn=false)->K ⟨L,Zd7 [] (hs++jv) (Za6 (pre++r)),df⟩) /\
   ∀(i:Nat) (o:Oper) (f:Fact),r[i]?=some o->fs[i]?=some f ->
    FactAt pp P T F G Qp all o f (foldE E (r.take i) (fs.take i)) (Zd7 [] (hs++jv)) (Za6 (pre++r.take i)) (ZpF (ZaP (ZaF (pre++r.take i)) (Zac o)) (pre++r.take i)) df /\
    (f.dd=true->∃p,Nat.testBit (ZaP (ZaF (pre++r.take i)) (Zac o)) p=true/\(p∈pn\/∃i' f',p=pre.length+i'/\fs[i']?=some f'/\f'.pn=true)):=by
 intro r
 induction r with
 | nil =>intro pre hs E env df pn K h hr hl;refine ⟨[],[],env,rfl,hr,λhp _=>by subst hp;simpa [ZvF] using h,λi o f hi=>by simp at hi⟩
 | cons o r ih =>
  intro pre hs E env df pn K h hr hl
  let Goal:Prop:=∃(fs:List Fact) (jv:List Zae) (L:Env),fs.length=(o :: r).length/\Ref (foldE E (o :: r) fs) L/\(pn=[]->(∀f∈fs,f.pn=false)->K ⟨L,Zd7 [] (hs++jv) (Za6 (pre++o :: r)),df⟩) /\
     ∀(i:Nat) (o':Oper) (f:Fact),(o :: r)[i]?=some o'->fs[i]?=some f ->
      FactAt pp P T F G Qp all o' f (foldE E ((o :: r).take i) (fs.take i)) (Zd7 [] (hs++jv)) (Za6 (pre++(o :: r).take i)) (ZpF (ZaP (ZaF (pre++(o :: r).take i)) (Zac o')) (pre++(o :: r).take i)) df /\
      (f.dd=true->∃p,Nat.testBit (ZaP (ZaF (pre++(o :: r).take i)) (Zac o')) p=true/\(p∈pn\/∃i' f',p=pre.length+i'/\fs[i']?=some f'/\f'.pn=true))
  show Goal;have build:∀(d:D) (L:Env) (b fp fd:Bool) (nw:List Nat) (kE:List Zae),(pn=[]->fp=false->nw=[])->(∀p∈nw,p∈pn\/(p=pre.length/\fp=true))->(fd=true->∃p∈pn,Nat.testBit (ZaP (ZaF pre) (Zac o)) p=true)->Ref E L->ZmK P T F G pp Qp all r (pre++[o]) (ZaF pre++[ZaP (ZaF pre) (Zac o)]) (hs++kE) (ZgR L o.dst d) df nw K->(hs++kE).length=Za6 (pre++[o])+1 ->
    (∀H:Nat->Zae,(∀k,k < (hs++kE).length->H k=Zd7 [] (hs++kE) k)->FactAt pp P T F G Qp all o ⟨d,L,b,fp,fd⟩ E H (Za6 pre) (ZpF (ZaP (ZaF pre) (Zac o)) pre) df) ->
    Goal:=by
   intro d L b fp fd nw kE vO lI im fw hv hlen hf;rw[<- Zgh] at hv;obtain ⟨fs,jv,L',h1,h2,h3,h4⟩:=ih (pre++[o]) (hs++kE) (ZgR E o.dst d) _ df nw K hv (fw.set o.dst d) hlen;refine ⟨⟨d,L,b,fp,fd⟩ :: fs,kE++jv,L',by simp[h1],h2,λhp av=>by simpa [List.append_assoc] using h3 (vO hp (av _ Yae)) (λf hf=>av f (Yad _ hf)),λi o' f ho jb=>?_⟩;cases i with
   | zero =>simp at ho jb;subst ho;subst jb;have:=hf (Zd7 [] (hs++(kE++jv))) (λk hk=>by rw[<- Yax];exact Zhc hk);refine ⟨by simpa [foldE] using this,λkf=>?_⟩;obtain ⟨p,hp,hb⟩:=im kf;exact ⟨p,by simpa using hb,.inl hp⟩
   | succ i =>
    obtain ⟨this,kf⟩:=h4 i o' f (by simpa using ho) (by simpa using jb);refine ⟨by simpa [foldE,List.append_assoc] using this,λhd=>?_⟩;obtain ⟨p,hb,hp⟩:=kf hd;refine ⟨p,by simpa [List.append_assoc] using hb,?_⟩;rcases hp with hp | ⟨i',f',hp,iq,n4⟩
    ·rcases lI p hp with hp | ⟨hp,ed⟩
     ·exact .inl hp
     ·exact .inr ⟨0,_,by simpa using hp,rfl,ed⟩
    ·exact .inr ⟨i'+1,f',by rw[hp];simp;omega,by simpa using iq,n4⟩
  cases bL:ZkB o with
  | true =>
   obtain ⟨aY,dv,_⟩:=Zut bL;simp only[Zji,ZsX,bL,cond_true] at h;cases hd:Zuy o.dst && ZBM all o.dst && Zro T o.op with
   | false=>rw[hd] at h;exact h.elim
   | true =>rw[hd] at h;simp only[cond_true] at h;refine build .any env true false false pn [] (λh _=>h) (λp hp=>.inl hp) (λh=>by cases h) hr (by simpa using h) (by simp[ZcW,aY,hl]) (λH hH=>?_);exact ⟨hr,(by unfold Zeu;rw[dv]),λhf=>(by cases hf),λhf=>(by cases hf),λ_ hq=>(by rw[aY] at hq;cases hq),λhf=>(by cases hf),λhq=>(by rw[bL] at hq;cases hq),λ_=>⟨rfl,rfl,rfl,rfl,hd⟩⟩
  | false =>
  cases bn:(CA.fl && Zz7 o.op) with
  | true=>simp only[Zji,ZsX,bL,bn,cond_true,cond_false] at h
  | false =>
  have run:∀L:Env,Ref E L->Zeu all o ⟨.any,L,true,false,false⟩ ->
    (bif Zdt o.op then vcA P T F G o.op ⟨L,Zd7 [] hs (Za6 pre),df⟩ (λd h=>frz (ZCg pp pre.length) (Zd7 [] hs (Za6 pre)).length d h λd h=>Zqv (ZnH pp && Zuu o.op) (Zd7 [] hs (Za6 pre)) h (Zfi d λd=>ZeH h λh=>ZmK P T F G pp Qp all r (pre++[o]) (ZaF pre++[ZaP (ZaF pre) (Zac o)]) (hs++[h]) (ZgR L o.dst d) df pn K))
     else bif Zlc pn (ZaP (ZaF pre) (Zac o)) then ∃d,ZmK P T F G pp Qp all r (pre++[o]) (ZaF pre++[ZaP (ZaF pre) (Zac o)]) hs (ZgR L o.dst d) df pn K
     else bif ZCh pp pre.length then vcP P F G o.op ⟨L,Zd7 [] hs (ZpF (ZaP (ZaF pre) (Zac o)) pre),df⟩ Qp (λd=>Zfi d λd=>ZmK P T F G pp Qp all r (pre++[o]) (ZaF pre++[ZaP (ZaF pre) (Zac o)]) hs (ZgR L o.dst d) df (pre.length :: pn) K)
     else bif qMk o.op then ZBy P T F G o.op ⟨L,[],df⟩ (λd=>Zfi d λd=>ZmK P T F G pp Qp all r (pre++[o]) (ZaF pre++[ZaP (ZaF pre) (Zac o)]) hs (ZgR L o.dst d) df pn K)
     else vcQ P T F G o.op ⟨L,bif ZqD pp then [] else Zd7 [] hs (ZpF (ZaP (ZaF pre) (Zac o)) pre),df⟩ (λd=>Zfi d λd=>ZmK P T F G pp Qp all r (pre++[o]) (ZaF pre++[ZaP (ZaF pre) (Zac o)]) hs (ZgR L o.dst d) df pn K))->Goal:=by
   intro L fw hg al;have aT:ZpF (ZaP (ZaF pre) (Zac o)) pre < hs.length:=by have:=ZzN (ZaP (ZaF pre) (Zac o)) pre;omega
   cases aY:Zdt o.op with
   | true =>
    rw[aY] at al;simp only[cond_true,ZfJ,Zdm] at al;have cx:∃z d h1,ZmK P T F G pp Qp all r (pre++[o]) (ZaF pre++[ZaP (ZaF pre) (Zac o)]) (hs++[h1]) (ZgR L o.dst d) df pn K/\(∀K':KD,K' d h1->ZaN P T F G o.op ⟨L,Zd7 [] hs (Za6 pre),df⟩ (λd h=>frz z (Zd7 [] hs (Za6 pre)).length d h K') (λ_ _=>False))/\(ZlY pp o.op=false->Ex (Zd7 [] hs (Za6 pre)) h1):=by
     obtain ⟨d,h1,hk,bj,hex⟩:=ZzZ aY al;have nD:∀{h1:Zae} {X:Prop},Zqv (ZnH pp && Zuu o.op) (Zd7 [] hs (Za6 pre)) h1 X->(Zd8 o.op=false->Ex (Zd7 [] hs (Za6 pre)) h1)->ZlY pp o.op=false->Ex (Zd7 [] hs (Za6 pre)) h1:=fun {h1 X} hx hm pM=>by
      cases hl:ZnH pp && Zuu o.op with
      | true =>rw[hl] at hx;obtain ⟨⟨k,rfl⟩,_⟩:=hx;exact Ex.app _ _
      | false=>exact hm (by simpa [ZlY,hl] using pM)
     cases hz:ZCg pp pre.length with
     | false=>rw[hz] at hk;exact ⟨false,d,h1,Zqu hk,λK' ae=>bj _ ae,nD hk hex⟩
     | true =>rw[hz] at hk;obtain ⟨xs,e,sz,rfl,hi,hk⟩:=Zmm hk;exact ⟨true,_,_,Zqu hk,λK' ae=>bj _ (ZBe hi ae),nD hk (λhm=>ZBf (hex hm))⟩
    obtain ⟨z,d,h1,hk,bj,hex⟩:=cx;refine build d L true false false pn [h1] (λh _=>h) (λp hp=>.inl hp) (λh=>by cases h) fw hk (by simp[ZcW,aY,hl]) (λH hH=>?_);have e0:H (Za6 pre)=Zd7 [] hs (Za6 pre):=by rw[hH _ (by simp;omega)];exact Zhc (by omega)
    have e1:H (Za6 pre+1)=h1:=by rw[hH _ (by simp;omega),<- hl];exact Zhb
    refine ⟨fw,hg,λhf=>(by cases hf),λhf=>(by cases hf),λ_ _=>⟨⟨z,λK' ae=>?_⟩,λhm=>?_⟩,λhf=>(by cases hf),λ_ _ hq=>(by rw[aY] at hq;cases hq),λhq=>(by rw[bL] at hq;cases hq)⟩
    ·rw[e0];exact bj K' (by rw[<- e1];exact ae)
    ·rw[e0,e1];exact hex hm
   | false =>
    rw[aY] at al;simp only[cond_false,ZfJ] at al;cases kf:Zlc pn (ZaP (ZaF pre) (Zac o)) with
    | true =>rw[kf] at al;simp only[cond_true] at al;obtain ⟨d,hk⟩:=al;refine build d L true false true pn [] (λh _=>h) (λp hp=>.inl hp) (λ_=>Zob kf) fw (by simpa using hk) (by simp[ZcW,aY,hl]) (λH hH=>?_);exact ⟨fw,hg,λ_=>⟨rfl,aY⟩,λhf=>(by cases hf),λ_ hq=>(by rw[aY] at hq;cases hq),λhf=>(by cases hf),λ_ _ _ _ hq=>(by cases hq),λhq=>(by rw[bL] at hq;cases hq)⟩
    | false =>
    rw[kf] at al;simp only[cond_false] at al;cases gb:ZCh pp pre.length with
    | true =>rw[gb] at al;simp only[cond_true] at al;obtain ⟨d,hk,bj⟩:=Zyd (T:=T) al;refine build d L true true false (pre.length :: pn) [] (λ_ h=>by cases h) (λp hp=>by rcases Yav.1 hp with rfl | hp;exact .inr ⟨rfl,rfl⟩;exact .inl hp) (λh=>by cases h) fw (by simpa using hk) (by simp[ZcW,aY,hl]) (λH hH=>?_);exact ⟨fw,hg,λhf=>(by cases hf),λhf=>(by cases hf),λ_ hq=>(by rw[aY] at hq;cases hq),λ_=>⟨rfl,aY,bj⟩,λ_ _ _ hq=>(by cases hq),λhq=>(by rw[bL] at hq;cases hq)⟩
    | false =>
    rw[gb] at al;simp only[cond_false] at al;have key:∃d,ZmK P T F G pp Qp all r (pre++[o]) (ZaF pre++[ZaP (ZaF pre) (Zac o)]) hs (ZgR L o.dst d) df pn K/\∃z:Bool,∀(h':Zae) (K':KD),(Ex (Zd7 [] hs (ZpF (ZaP (ZaF pre) (Zac o)) pre)) h'\/hpl pp o.op=true)->K' d h'->ZaN P T F G o.op ⟨L,h',df⟩ (λd h=>frq z h'.length d h K') (λ_ _=>False):=by
     cases pG:qMk o.op with
     | true =>rw[pG] at al;simp only[cond_true] at al;obtain ⟨d,hk,bj⟩:=ZvE pG al;exact ⟨d,hk,true,λh' K' _ ae=>bj h' K' ae⟩
     | false =>
     rw[pG] at al;simp only[cond_false] at al;cases kP:Zmi o.op with
     | true =>obtain ⟨d,hk,bj⟩:=Zyc kP al;exact ⟨d,hk,false,λh' K' _ ae=>bj h' K' ae⟩
     | false =>
      obtain ⟨d,hk,bj⟩:=ZsS (Zvl aY bn pG) al;refine ⟨d,hk,false,λh' K' hx ae=>bj h' K' ?_ ae⟩;cases fc:ZqD pp with
      | true=>exact λi o hi=>(by simp at hi)
      | false =>
       rcases hx with hx | hx
       ·exact hx
       ·simp[hpl,kP,fc] at hx
    obtain ⟨d,hk,z,bj⟩:=key;refine build d L true false false pn [] (λh _=>h) (λp hp=>.inl hp) (λh=>by cases h) fw (by simpa using hk) (by simp[ZcW,aY,hl]) (λH hH=>?_);have e0:H (ZpF (ZaP (ZaF pre) (Zac o)) pre)=Zd7 [] hs (ZpF (ZaP (ZaF pre) (Zac o)) pre):=by rw[hH _ (by simpa using aT)];simp
    exact ⟨fw,hg,λhf=>(by cases hf),λhf=>(by cases hf),λ_ hq=>(by rw[aY] at hq;cases hq),λhf=>(by cases hf),λ_ _ _ _ _=>⟨z,λh' K' hx ae=>bj h' K' (by rw[<- e0];exact hx) ae⟩,λhq=>(by rw[bL] at hq;cases hq)⟩
  have skip:∀L:Env,Ref E L->Zeu all o ⟨.any,L,false,false,false⟩ ->
    ZmK P T F G pp Qp all r (pre++[o]) (ZaF pre++[ZaP (ZaF pre) (Zac o)]) (bif Zdt o.op then hs++[Zd7 [] hs (Za6 pre)] else hs) (ZgR L o.dst (.tuple [])) df pn K->Goal:=by
   intro L fw hg pD;cases aY:Zdt o.op with
   | true =>
    rw[aY] at pD;refine build (.tuple []) L false false false pn [Zd7 [] hs (Za6 pre)] (λh _=>h) (λp hp=>.inl hp) (λh=>by cases h) fw pD (by simp[ZcW,aY,hl]) (λH hH=>?_);have e0:H (Za6 pre)=Zd7 [] hs (Za6 pre):=by rw[hH _ (by simp;omega)];exact Zhc (by omega)
    have e1:H (Za6 pre+1)=Zd7 [] hs (Za6 pre):=by rw[hH _ (by simp;omega),<- hl];exact Zhb
    exact ⟨fw,hg,λhf=>(by cases hf),λ_=>⟨rfl,λ_=>by rw[e0,e1]⟩,λhf=>(by cases hf),λhf=>(by cases hf),λ_ hf=>(by cases hf),λhq=>(by rw[bL] at hq;cases hq)⟩
   | false =>rw[aY] at pD;refine build (.tuple []) L false false false pn [] (λh _=>h) (λp hp=>.inl hp) (λh=>by cases h) fw (by simpa using pD) (by simp[ZcW,aY,hl]) (λH hH=>?_);exact ⟨fw,hg,λhf=>(by cases hf),λ_=>⟨rfl,λhq=>(by rw[aY] at hq;cases hq)⟩,λhf=>(by cases hf),λhf=>(by cases hf),λ_ hf=>(by cases hf),λhq=>(by rw[bL] at hq;cases hq)⟩
  simp only[Zji,ZsX,bL,bn,cond_false] at h;cases dv:o.guard with
  | none =>rw[dv] at h;exact run env hr (by simp[Zeu,dv]) h
  | some g =>
   obtain ⟨j,b⟩:=g;rw[dv] at h;simp only at h;cases cJ:(all[j]?).bind (·.dst) with
   | none =>rw[cJ] at h;exact skip env hr (by simp[Zeu,dv,cJ]) h
   | some s =>
    rw[cJ] at h;simp only at h;have gd:∀(L:Env) (c rb:Bool),L s=.g (.bool c)->rb=(c == b)->Zeu all o ⟨.any,L,rb,false,false⟩:=λL c rb e1 e2=>by simp only[Zeu,dv,cJ];exact .inl ⟨c,e1,e2⟩
    have ss:∀c:Bool,(env.set s (.g (.bool c))) s=.g (.bool c):=λc=>by simp[Env.set]
    split at h
    ·rename_i e;cases b with
     | true=>exact run env hr (gd env true true e rfl) h
     | false=>exact skip env hr (gd env true false e rfl) h
    ·rename_i e;cases b with
     | true=>exact skip env hr (gd env false false e rfl) h
     | false=>exact run env hr (gd env false true e rfl) h
    ·rename_i l e;exact skip env hr (by simp only[Zeu,dv,cJ];exact .inr ⟨l,e,trivial⟩) h
    ·rename_i p e;by_cases hp:p
     ·have iS:Ref E (env.set s (.g (.bool true))):=hr.bool (.inl ⟨p,e,by simp[hp]⟩);cases b with
      | true=>exact run _ iS (gd _ true true (ss true) rfl) (h.1 hp)
      | false=>exact skip _ iS (gd _ true false (ss true) rfl) (h.1 hp)
     ·have iS:Ref E (env.set s (.g (.bool false))):=hr.bool (.inl ⟨p,e,by simp[hp]⟩);cases b with
      | true=>exact skip _ iS (gd _ false false (ss false) rfl) (h.2 hp)
      | false=>exact run _ iS (gd _ false true (ss false) rfl) (h.2 hp)
    ·rename_i p e;by_cases hp:p
     ·have iS:Ref E (env.set s (.g (.bool false))):=hr.bool (.inr ⟨p,e,by simp[hp]⟩);cases b with
      | true=>exact skip _ iS (gd _ false false (ss false) rfl) (h.2 hp)
      | false=>exact run _ iS (gd _ false true (ss false) rfl) (h.2 hp)
     ·have iS:Ref E (env.set s (.g (.bool true))):=hr.bool (.inr ⟨p,e,by simp[hp]⟩);cases b with
      | true=>exact run _ iS (gd _ true true (ss true) rfl) (h.1 hp)
      | false=>exact skip _ iS (gd _ true false (ss true) rfl) (h.1 hp)
    ·exact h.elim
def eXr (X:Nat->Bool):Nat->Env->List Oper->List Fact->Env
 | i,E,o :: r,f :: fs=>eXr X (i+1) (bif X i then ZgR E o.dst f.d else E) r fs
 | _,E,_,_=>E
theorem ZyK {E:Env} {dst:Option Nat} {d:D} {s:Nat} (h:dst≠some s):ZgR E dst d s=E s:=by
 cases dst with
 | none=>rfl
 | some i =>simp only[ZgR,Env.set];rw[Zc5 (λe=>h (by rw[e]))];rfl
theorem ZoW {E:Env} {d:D} {s:Nat}:ZgR E (some s) d s=d:=by simp[ZgR,Env.set]
theorem ZfM {X Y:Nat->Bool} {s:Nat}:∀(r:List Oper) (fs:List Fact) (i:Nat) (E E':Env),(∀(k:Nat) (o:Oper),r[k]?=some o->o.dst=some s->X (i+k)=Y (i+k))->E s=E' s->eXr X i E r fs s=eXr Y i E' r fs s
 | [],fs,i,E,E',_,he=>by simp only[eXr];exact he
 | o :: r,[],i,E,E',_,he=>by simp only[eXr];exact he
 | o :: r,f :: fs,i,E,E',h,he=>by
  simp only[eXr];refine ZfM r fs (i+1) _ _ (λk o' hk hd=>by rw[show i+1+k=i+(k+1) from by omega];exact h (k+1) o' (by simpa using hk) hd) ?_;by_cases hd:o.dst=some s
  ·have:=h 0 o rfl hd;rw[Nat.add_zero] at this;rw[this];cases Y i with
   | true=>simp only[cond_true];rw[hd,ZoW,ZoW]
   | false=>exact he
  ·have e1:∀(b:Bool) (E:Env),(bif b then ZgR E o.dst f.d else E) s=E s:=λb E=>by cases b with | true=>exact ZyK hd | false=>rfl
   rw[e1,e1];exact he
theorem Zx1 {X:Nat->Bool} {s:Nat}:∀(r:List Oper) (fs:List Fact) (i:Nat) (E:Env) (k:Nat) (o:Oper) (f:Fact),r[k]?=some o->fs[k]?=some f->o.dst=some s->X (i+k)=true->(∀(m:Nat) (o':Oper),k < m->r[m]?=some o'->o'.dst=some s->X (i+m)=false)->eXr X i E r fs s=f.d
 | [],fs,i,E,k,o,f,h,_,_,_,_=>by simp at h
 | o :: r,[],i,E,k,o',f,_,h,_,_,_=>by simp at h
 | o :: r,f :: fs,i,E,0,o',f',h,hf,hd,hX,hn=>by
  simp at h hf;subst h;subst hf;rw[Nat.add_zero] at hX;simp only[eXr,hX,cond_true];rw[ZfM (Y:=λ_=>false) r fs (i+1) _ (ZgR E o.dst f.d) (λm o' hm bF=>by rw[show i+1+m=i+(m+1) from by omega];exact hn (m+1) o' (by omega) (by simpa using hm) bF) rfl];have key:∀(r:List Oper) (fs:List Fact) (i:Nat) (E:Env),eXr (λ_=>false) i E r fs=E:=by
   intro r
   induction r with
   | nil=>intro fs i E;rfl
   | cons o r ih =>
    intro fs i E;cases fs with
    | nil=>rfl
    | cons f fs=>simp only[eXr,cond_false];exact ih fs (i+1) E
  rw[key,hd,ZoW]
 | o :: r,f :: fs,i,E,k+1,o',f',h,hf,hd,hX,hn=>by simp only[eXr];exact Zx1 r fs (i+1) _ k o' f' (by simpa using h) (by simpa using hf) hd (by rw[show i+1+k=i+(k+1) from by omega];exact hX) (λm uU hm h2 bF=>by rw[show i+1+m=i+(m+1) from by omega];exact hn (m+1) uU (by omega) (by simpa using h2) bF)
theorem Zi5:∀(r:List Oper) (fs:List Fact) (i j:Nat) (E:Env),fs.length=r.length->foldE E (r.take i) (fs.take i)=eXr (λk=>decide (k < j+i)) j E r fs
 | [],fs,i,j,E,_=>by simp[foldE,eXr]
 | o :: r,[],i,j,E,h=>by simp at h
 | o :: r,f :: fs,0,j,E,h=>by
  have key:∀(r:List Oper) (fs:List Fact) (i:Nat) (E:Env),j<=i->eXr (λk=>decide (k < j+0)) i E r fs=E:=by
   intro r
   induction r with
   | nil=>intro fs i E _;rfl
   | cons o r ih =>
    intro fs i E hi;cases fs with
    | nil=>rfl
    | cons f fs=>simp only[eXr];rw[show decide (i < j+0)=false from by simp;omega];exact ih fs (i+1) E (by omega)
  rw[key _ _ _ _ (Yas _)];simp[foldE]
 | o :: r,f :: fs,i+1,j,E,h=>by simp only[List.take_succ_cons,foldE,eXr];rw[show decide (j < j+(i+1))=true from decide_eq_true (by omega),Zi5 r fs i (j+1) _ (by simpa using h)];simp only[cond_true];rw[show j+1+i=j+(i+1) from by omega]
end
theorem Zov:∀(l:List Oper),(ZaF l).length=l.length:=by
 intro l;have key:∀(l:List Oper) (acc:List Nat),(l.foldl (λacc o=>acc++[ZaP acc (Zac o)]) acc).length=acc.length+l.length:=by
  intro l
  induction l with
  | nil=>intro acc;rfl
  | cons o l ih=>intro acc;rw[List.foldl_cons,ih];simp;omega
 have:=key l [];simpa [ZaF] using this
theorem ZvY {α:Type} {Q:List α->Prop} (h0:Q []) (h1:∀l a,Q l->Q (l++[a])):∀l,Q l:=by
 have:∀l:List α,Q l.reverse:=by
  intro l
  induction l with
  | nil=>exact h0
  | cons a l ih=>rw[List.reverse_cons];exact h1 _ _ ih
 intro l;have:=this l.reverse;rwa [List.reverse_reverse] at this
theorem Zf2 {X:Nat->Bool}:∀(l:List Oper),(∀(i:Nat) (o:Oper),l[i]?=some o->X i=true->∀e∈Zac o,X e=true)->(∀(i:Nat) (o:Oper),l[i]?=some o->∀e∈Zac o,e < i) ->
  (∀k,k < l.length->X k=true->∀j,Nat.testBit (Zd7 0 (ZaF l) k) j=true->X j=true)/\∀es:List Nat,(∀e∈es,X e=true)->(∀e∈es,e < l.length)->∀j,Nat.testBit (ZaP (ZaF l) es) j=true->X j=true:=by
 refine ZvY ?_ ?_
 ·intro _ _;refine ⟨λk hk=>by simp at hk,λes he hl j hj=>?_⟩;cases es with
  | nil=>simp[ZaP] at hj
  | cons e es=>have:=hl e Yae;simp at this
 ·intro l o ih hX hE;have dj:∀(i:Nat) (o:Oper),l[i]?=some o->X i=true->∀e∈Zac o,X e=true:=λi o hi=>hX i o (by rw[Yal (Yac.1 hi).1];exact hi);have xz:∀(i:Nat) (o:Oper),l[i]?=some o->∀e∈Zac o,e < i:=λi o hi=>hE i o (by rw[Yal (Yac.1 hi).1];exact hi);obtain ⟨h1,h2⟩:=ih dj xz;have kM:(l++[o])[l.length]?=some o:=by simp
  have rows:∀k,k < (l++[o]).length->X k=true->∀j,Nat.testBit (Zd7 0 (ZaF (l++[o])) k) j=true->X j=true:=by
   intro k hk dM j hj;rw[Zgh] at hj;by_cases aB:k < l.length
   ·rw[Zhc (by rw[Zov];exact aB)] at hj;exact h1 k aB dM j hj
   ·have bS:k=l.length:=by simp at hk;omega
    subst bS;have:Zd7 0 (ZaF l++[ZaP (ZaF l) (Zac o)]) l.length=ZaP (ZaF l) (Zac o):=by have:=Zhb (z:=0) (l:=ZaF l) (a:=ZaP (ZaF l) (Zac o)) (m:=[]);rwa [Zov] at this
    rw[this] at hj;exact h2 _ (hX _ _ kM dM) (hE _ _ kM) j hj
  refine ⟨rows,λes=>?_⟩
  induction es with
  | nil=>intro _ _ j hj;simp[ZaP] at hj
  | cons e es vb =>
   intro he hl j hj;simp only[ZaP,Nat.testBit_or,YaZ] at hj;rcases hj with (hj | hj) | hj
   ·rw[Nat.testBit_two_pow] at hj;have:e=j:=by simpa using hj
    subst this;exact he e Yae
   ·exact rows e (hl e Yae) (he e Yae) j hj
   ·exact vb (λe h=>he e (Yad _ h)) (λe h=>hl e (Yad _ h)) j hj
theorem Zt3 [CA] {lt:Option Nat} {all:Array Oper} {row:Nat} {o:Oper}:∀(l:List Oper) (j:Nat),ZAQ lt all row o j l=true->∀(k:Nat) (p:Oper),l[k]?=some p->Zdp lt all o p=true->Nat.testBit row (j+k)=true
 | [],_,_,k,p,h,_=>by simp at h
 | q :: l,j,h,0,p,hk,hc=>by
  simp at hk;subst hk;simp only[ZAQ,Yag,YaZ,YaS] at h;rcases h.1 with h1 | h1
  ·rw[hc] at h1;cases h1
  ·exact h1
 | q :: l,j,h,k+1,p,hk,hc=>by simp only[ZAQ,Yag] at h;have:=Zt3 l (j+1) h.2 k p (by simpa using hk) hc;rwa [show j+1+k=j+(k+1) from by omega] at this
theorem Zh4 [CA] {lt:Option Nat} {all:Array Oper}:∀(r pre:List Oper),ZfN lt all r pre (ZaF pre)=true->∀(i:Nat) (o:Oper),r[i]?=some o ->
  (∀e∈Zac o,e < pre.length+i)/\∀(k:Nat) (p:Oper),(pre++r.take i)[k]?=some p->Zdp lt all o p=true->Nat.testBit (ZaP (ZaF (pre++r.take i)) (Zac o)) k=true
 | [],_,_,i,o,h=>by simp at h
 | o :: r,pre,h,0,o',hi=>by simp at hi;subst hi;simp only[ZfN,Yag] at h;refine ⟨λe he=>by simpa using ZcA h.1.1 e he,λk p hk hc=>?_⟩;have:=Zt3 pre 0 h.1.2 k p (by simpa using hk) hc;simpa using this
 | o :: r,pre,h,i+1,o',hi=>by simp only[ZfN,Yag] at h;have h2:=h.2;rw[<- Zgh] at h2;obtain ⟨h3,h4⟩:=Zh4 r (pre++[o]) h2 i o' (by simpa using hi);refine ⟨λe he=>by have:=h3 e he;simp at this;omega,λk p hk hc=>?_⟩;have:=h4 k p (by simpa [List.append_assoc] using hk) hc;simpa [List.append_assoc] using this
theorem confl_symm_reads [CA] {lt:Option Nat} {all:Array Oper} {o p:Oper} (h:Zdp lt all o p=false):(∀d,o.dst=some d->d ∉ p.looksAt all)/\(∀d,p.dst=some d->d ∉ o.looksAt all)/\(∀d,o.dst=some d->p.dst≠some d)/\((Zdt o.op && Zdt p.op)=false)/\(ZlY lt o.op=true->Zz9 lt p=true)/\(ZlY lt p.op=true->Zz9 lt o=true):=by
 unfold Zdp at h;simp only[YbQ] at h;obtain ⟨⟨⟨⟨h1,h2⟩,h3⟩,h4⟩,h5⟩:=h;refine ⟨λd hd hm=>?_,λd hd hm=>?_,λd hd hm=>?_,h3,λhm=>?_,λhm=>?_⟩
 ·rw[hd] at h1;simp only[YbQ] at h1;rw[ZbO.2 hm] at h1;exact absurd h1.1 (by simp)
 ·rw[hd] at h2;simp only at h2;rw[ZbO.2 hm] at h2;cases h2
 ·rw[hd] at h1;simp only[YbQ] at h1;rw[hm] at h1;simp only[YaY] at h1;exact absurd h1.2 (by simp)
 ·rw[hm] at h4;simpa using h4
 ·rw[hm] at h5;simpa using h5
theorem Zcy [CA] (l:List Oper) (k:Nat) (o:Oper) (h:l[k]?=some o):Za6 (l.take (k+1))=bif Zdt o.op then Za6 (l.take k)+1 else Za6 (l.take k):=by
 have:l.take (k+1)=l.take k++[o]:=by rw[List.take_add_one,h];rfl
 rw[this,ZcW]
theorem RelD.drew {C:Ctx} {h:Zae} {β:Nat->Value} {V:Nat->Prop} {w:World} (hr:RelD C h β V w) (k:Nat):RelD C h β V { w with drawn:=k }:=by have mv:ZaI V w V { w with drawn:=k }:=λk hk=>⟨hk,rfl⟩;refine ⟨λi o hi=>(hr.obj i o hi).keep (LeH.refl _ _) mv rfl (λ_ _=>rfl),hr.sep,hr.mine,hr.vout,hr.vlt,hr.vin,hr.vnew,⟨hr.fr.os,hr.fr.tape,hr.fr.output,hr.fr.size,hr.fr.block⟩,hr.gl.move mv⟩
section
variable {P:Program} {T:Tab} {F:FuncId->Bool} {C:Ctx} {n:Nat}
theorem Zgd {p q:Nat->Bool} {i:Nat}:∀(l:List Nat),l.Nodup->i∈l->p i=true->q i=false->(∀j,j≠i->p j=q j)->l.countP q+1=l.countP p
 | [],_,h,_,_,_=>by simp at h
 | a :: l,hn,hm,hp,hq,hj=>by
  have q9:=List.nodup_cons.1 hn;by_cases ha:a=i
  ·subst ha;have:l.countP q=l.countP p:=List.countP_congr (λj aD=>by rw[hj j (λe=>q9.1 (e▸aD))]);rw[Yb1,Yb1,hp,hq,this];simp
  ·have lR:i∈l:=by rcases Yav.1 hm with h | h;exact absurd h.symm ha;exact h
   have:=Zgd l q9.2 lR hp hq hj;rw[Yb1,Yb1,hj a ha];omega
theorem ZbM {l:Array Bool} {i j:Nat} (hi:i < l.size) (z:Bool):(l.setIfInBounds i true).getD j z=if j=i then true else l.getD j z:=by
 simp only[Yao,Ybs];by_cases h:i=j
 ·subst h;simp[hi]
 ·rw[if_neg h,if_neg (λe=>h e.symm)]
theorem ZjT:∀(x y:List Oper) (fx fy:List Fact) (E:Env),fx.length=x.length->foldE E (x++y) (fx++fy)=foldE (foldE E x fx) y fy
 | [],y,fx,fy,E,h=>by cases fx with | nil=>rfl | cons=>simp at h
 | o :: x,y,[],fy,E,h=>by simp at h
 | o :: x,y,f :: fx,fy,E,h=>by simp only[List.cons_append,foldE];exact ZjT x y fx fy _ (by simpa using h)
def ZrT (env:Env) (o:Oper):Fact:=⟨match o.dst with | some s=>env s | none=>.any,env,true,false,false⟩
theorem Zf8 (env:Env):∀(l:List Oper),foldE env l (l.map (ZrT env))=env
 | []=>rfl
 | o :: l=>by
  simp only[Yan,foldE];have:ZgR env o.dst (ZrT env o).d=env:=by
   funext s;unfold ZrT;cases hd:o.dst with
   | none=>rfl
   | some i =>
    simp only[ZgR,Env.set];by_cases hs:s=i
    ·subst hs;rw[YaY];rfl
    ·rw[Zc5 hs];rfl
  rw[this,Zf8 env l]
theorem Zqk {α:Type} {z a:α}:∀{m:Nat} {l:List α} {j:Nat},j < m->Zd7 z (List.replicate m a++l) j=a
 | 0,_,_,h=>by omega
 | m+1,l,0,_=>rfl
 | m+1,l,j+1,h=>by rw[List.replicate_succ,List.cons_append];exact Zqk (by omega)
def ZpP [CA] (T:Tab) (L:List Oper) (lo:Nat) (X:Nat->Bool) (C:Ctx) (h:Zae) (β:Nat->Value) (V:Nat->Prop) (tm:Array Value) (w:World):Prop :=
 ∃γ:Nat->Nat,(∀(k:Nat) (o:Oper),L[k]?=some o->lo<=k->ZkB o=true->X k=true->∃s t i,o.dst=some s/\o.op=.alloc t/\T t=some i/\tm.getD s undef=.pointer (some ⟨γ k,0,none⟩)/\w.heap[γ k]?=some (.cells i.zero.toArray t (0,0))/\¬V (γ k)/\(C.w0.heap.size<=γ k\/C.own (γ k)) /\
   ∀(i':Nat) (o':Obj),h[i']?=some o'->o'.live=true->¬Bk o' (β i') (γ k)) /\
  (∀(k k':Nat) (o o':Oper),L[k]?=some o->L[k']?=some o'->lo<=k->lo<=k'->ZkB o=true->ZkB o'=true->X k=true->X k'=true->γ k=γ k'->k=k')
theorem ZiK:∀{l:List Oper} {s c:Nat},Zta l s c=true->(c=0->∀(i j:Nat) (o p:Oper),l[i]?=some o->l[j]?=some p->o.dst=some s->p.dst=some s->i=j)/\(c=1->∀(i:Nat) (o:Oper),l[i]?=some o->o.dst≠some s)/\c<=1
 | [],s,c,h=>by simp only[Zta] at h;have:=Yaq h;exact ⟨λh=>(by omega),λ_ i o hi=>(by simp at hi),by omega⟩
 | o :: l,s,c,h=>by
  simp only[Zta] at h;cases hd:o.dst with
  | none =>
   rw[hd] at h;simp only at h;obtain ⟨h0,h1,h2⟩:=ZiK h;refine ⟨λhc i j a b ha hb ea eb=>?_,λhc i a ha ea=>?_,h2⟩
   ·cases i with
    | zero=>simp at ha;subst ha;rw[hd] at ea;cases ea
    | succ i=>cases j with
     | zero=>simp at hb;subst hb;rw[hd] at eb;cases eb
     | succ j=>rw[h0 hc i j a b (by simpa using ha) (by simpa using hb) ea eb]
   ·cases i with
    | zero=>simp at ha;subst ha;rw[hd] at ea;cases ea
    | succ i=>exact h1 hc i a (by simpa using ha) ea
  | some d =>
   rw[hd] at h;simp only at h;cases hb:Nat.beq d s with
   | false =>
    rw[hb] at h;simp only[cond_false] at h;have aC:d≠s:=λe=>by subst e;rw[YaY] at hb;cases hb
    obtain ⟨h0,h1,h2⟩:=ZiK h;refine ⟨λhc i j a b ha hb ea eb=>?_,λhc i a ha ea=>?_,h2⟩
    ·cases i with
     | zero=>simp at ha;subst ha;rw[hd] at ea;injection ea with ea;exact absurd ea aC
     | succ i=>cases j with
      | zero=>simp at hb;subst hb;rw[hd] at eb;injection eb with eb;exact absurd eb aC
      | succ j=>rw[h0 hc i j a b (by simpa using ha) (by simpa using hb) ea eb]
    ·cases i with
     | zero=>simp at ha;subst ha;rw[hd] at ea;injection ea with ea;exact absurd ea aC
     | succ i=>exact h1 hc i a (by simpa using ha) ea
   | true =>
    rw[hb] at h;simp only[cond_true] at h;obtain ⟨h0,h1,h2⟩:=ZiK h;refine ⟨λhc i j a b ha hb ea eb=>?_,λhc=>(by omega),by omega⟩;have ep:=h1 (by omega);cases i with
    | zero=>cases j with
     | zero=>rfl
     | succ j=>exact absurd eb (ep j b (by simpa using hb))
    | succ i=>exact absurd ea (ep i a (by simpa using ha))
theorem ZzF {ops:Array Oper} {s:Nat} (h:ZBM ops (some s)=true) {i j:Nat} {o p:Oper} (hi:ops.toList[i]?=some o) (hj:ops.toList[j]?=some p) (ho:o.dst=some s) (hp:p.dst=some s):i=j :=
 (ZiK (s:=s) (c:=0) h).1 rfl i j o p hi hj ho hp
theorem Zng {C:Ctx} {h:Zae} {β:Nat->Value} {V:Nat->Prop} {w w':World} (hr:RelD C h β V w) (hf:Fr (λ_=>False) w w'):RelD C h β V w'/\ZaI V w V w':=by
 have hm:ZaI V w V w':=λk hk=>⟨hk,hf.block k (hr.vlt k hk) (λh=>h)⟩;refine ⟨⟨λi o hi=>?_,hr.sep,hr.mine,hr.vout,λk hk=>YaX (hr.vlt k hk) hf.size,hr.vin,hr.vnew,?_,hr.gl.move hm⟩,hm⟩
 ·cases fb:o.live with
  | false=>cases o<;>simp_all [Obj.live,Zco]
  | true=>exact (hr.obj i o hi).keep (LeH.refl h β) hm rfl (λk hk=>hf.block k (hr.lt hi fb hk) (λh=>h))
 ·refine ⟨hf.os.trans hr.fr.os,hf.tape.trans hr.fr.tape,hf.output.trans hr.fr.output,YaC hr.fr.size hf.size,λk hk hn=>?_⟩;rw[hf.block k (YaX hk hr.fr.size) (λh=>h)];exact hr.fr.block k hk hn
theorem ZpP.step [CA] {T:Tab} {L:List Oper} {lo:Nat} {X X':Nat->Bool} {C:Ctx} {h h':Zae} {β β':Nat->Value} {V V':Nat->Prop} {tm sR:Array Value} {w w':World} (hp:ZpP T L lo X C h β V tm w) (_hr:RelD C h β V w)
  (aL:RelD ⟨w,λk=>∃i o,h[i]?=some o/\o.live=true/\Bk o (β i) k,V,C.G⟩ h' β' V' w')
  (hX:∀(k:Nat) (o:Oper),L[k]?=some o->lo<=k->ZkB o=true->X' k=true->X k=true)
  (mJ:∀(k:Nat) (o:Oper) (s:Nat),L[k]?=some o->lo<=k->ZkB o=true->X' k=true->o.dst=some s->sR.getD s undef=tm.getD s undef):ZpP T L lo X' C h' β' V' sR w':=by
 obtain ⟨γ,h1,h2⟩:=hp;refine ⟨γ,λk o hk aT hf hx=>?_,λk k' o o' a1 a2 a3 a4 a5 a6 a7 a8=>h2 k k' o o' a1 a2 a3 a4 a5 a6 (hX k o a1 a3 a5 a7) (hX k' o' a2 a4 a6 a8)⟩;obtain ⟨s,t,i,e1,e2,e3,e4,e5,e6,e7,e8⟩:=h1 k o hk aT hf (hX k o hk aT hf hx);have aG:γ k < w.heap.size:=(YaQ.1 e5).1;have bK:¬∃i o,h[i]?=some o/\o.live=true/\Bk o (β i) (γ k):=λ⟨i',o',q1,q2,q3⟩=>e8 i' o' q1 q2 q3;refine ⟨s,t,i,e1,e2,e3,(mJ k o s hk aT hf hx e1).trans e4,(aL.fr.block _ aG bK).trans e5,λhv=>?_,e7,λi' o' q1 q2 q3=>?_⟩
 ·rcases aL.vnew _ hv with h3 | h3 | h3
  ·exact e6 h3
  ·exact absurd aG (YbB.2 h3)
  ·exact bK h3
 ·rcases aL.mine i' o' _ q1 q2 q3 with h3 | h3
  ·exact absurd aG (YbB.2 h3)
  ·exact bK h3
theorem ZpP.kill [CA] {T:Tab} {L:List Oper} {lo:Nat} {X:Nat->Bool} {C:Ctx} {h:Zae} {β:Nat->Value} {V:Nat->Prop} {tm:Array Value} {w:World} (l:List Nat) (hp:ZpP T L lo X C h β V tm w):ZpP T L lo X C (Zb4 h l) β (ZhQ h l β V) tm w:=by
 obtain ⟨γ,h1,h2⟩:=hp;refine ⟨γ,λk o hk aT hf hx=>?_,h2⟩;obtain ⟨s,t,i,e1,e2,e3,e4,e5,e6,e7,e8⟩:=h1 k o hk aT hf hx;refine ⟨s,t,i,e1,e2,e3,e4,e5,λhv=>?_,e7,λi' o' q1 q2 q3=>?_⟩
 ·rcases hv with hv | ⟨i',o',_,q1,q2,q3⟩
  ·exact e6 hv
  ·exact e8 i' o' q1 q2 q3
 ·rcases ZfF l h i' o' q1 with ⟨rfl,_⟩ | ⟨_,q1⟩
  ·cases q2
  ·exact e8 i' o' q1 q2 q3
mutual
theorem Zab.unapp {h:Zae} {x:Obj} {β β1:Nat->Value} {V V1:Nat->Prop} {w w1:World}:∀(d:D) (v1 v:Value),Zab h β1 V1 w1 d v1->Zab (h++[x]) β V w d v->Zab h β V w d v
 | .g x,v1,v,h1,hr=>by simp only[Zab] at hr ⊢;exact hr
 | .pb p,v1,v,h1,hr=>by simp only[Zab] at hr ⊢;exact hr
 | .pn p,v1,v,h1,hr=>by simp only[Zab] at hr ⊢;exact hr
 | .nils,v1,v,h1,hr=>by simp only[Zab] at hr ⊢;exact hr
 | .row i,v1,v,h1,hr=>by
  simp only[Zab] at h1 hr ⊢;cases ho:h[i]? with
  | none=>rw[ho] at h1;exact h1.elim
  | some o=>rw[Yal (Yac.1 ho).1,ho] at hr;exact hr
 | .rs i lo n,v1,v,h1,hr=>by
  simp only[Zab] at h1 hr ⊢;cases ho:h[i]? with
  | none=>rw[ho] at h1;exact h1.elim
  | some o=>rw[Yal (Yac.1 ho).1,ho] at hr;exact hr
 | .ptr i off,v1,v,h1,hr=>by
  simp only[Zab] at h1 hr ⊢;cases ho:h[i]? with
  | none=>rw[ho] at h1;exact h1.elim
  | some o=>rw[Yal (Yac.1 ho).1,ho] at hr;exact hr
 | .el i j off,v1,v,h1,hr=>by
  simp only[Zab] at h1 hr ⊢;cases ho:h[i]? with
  | none=>rw[ho] at h1;exact h1.elim
  | some o=>rw[Yal (Yac.1 ho).1,ho] at hr;exact hr
 | .fp r off,v1,v,h1,hr=>by simp only[Zab] at hr ⊢;exact hr
 | .nilP,v1,v,h1,hr=>by simp only[Zab] at hr ⊢;exact hr
 | .nilF,v1,v,h1,hr=>by simp only[Zab] at hr ⊢;exact hr
 | .nilI,v1,v,h1,hr=>by simp only[Zab] at hr ⊢;exact hr
 | .fn f fs cs,v1,v,h1,hr=>by simp only[Zab] at h1 hr ⊢;obtain ⟨gw,uL,_,a1,b1⟩:=h1;obtain ⟨us,ts,e,a,b⟩:=hr;exact ⟨us,ts,e,Zaa.unapp fs gw us a1 a,Zaa.unapp cs uL ts b1 b⟩
 | .iface t x,v1,v,h1,hr=>by simp only[Zab] at h1 hr ⊢;obtain ⟨u1,_,a1⟩:=h1;obtain ⟨u,e,a⟩:=hr;exact ⟨u,e,Zab.unapp x u1 u a1 a⟩
 | .agg cs,v1,v,h1,hr=>by simp only[Zab] at h1 hr ⊢;obtain ⟨gw,_,a1⟩:=h1;obtain ⟨us,e,a⟩:=hr;exact ⟨us,e,Zaa.unapp cs gw us a1 a⟩
 | .tuple cs,v1,v,h1,hr=>by simp only[Zab] at h1 hr ⊢;obtain ⟨gw,_,a1⟩:=h1;obtain ⟨us,e,a⟩:=hr;exact ⟨us,e,Zaa.unapp cs gw us a1 a⟩
 | .any,v1,v,h1,hr=>by simp only[Zab]
theorem Zaa.unapp {h:Zae} {x:Obj} {β β1:Nat->Value} {V V1:Nat->Prop} {w w1:World}:∀(ds:List D) (mE vs:List Value),Zaa h β1 V1 w1 ds mE->Zaa (h++[x]) β V w ds vs->Zaa h β V w ds vs
 | [],_,_,_,hr=>by simp only[Zaa] at hr ⊢;exact hr
 | d :: ds,mE,vs,h1,hr=>by simp only[Zaa] at h1 hr ⊢;obtain ⟨v1,gw,_,a1,b1⟩:=h1;obtain ⟨v,us,e,a,b⟩:=hr;exact ⟨v,us,e,Zab.unapp d v1 v a1 a,Zaa.unapp ds gw us b1 b⟩
end
theorem RelD.unapp {C C1:Ctx} {h:Zae} {x:Obj} {β β1:Nat->Value} {V V1:Nat->Prop} {w w1:World} (h1:RelD C1 h β1 V1 w1) (hr:RelD C (h++[x]) β V w):RelD C h β V w:=by
 have up:∀{i:Nat} {o:Obj},h[i]?=some o->(h++[x])[i]?=some o:=fun {i o} hi=>by rw[Yal (Yac.1 hi).1];exact hi
 refine ⟨λi o hi=>?_,λi j o o' k a b c d=>hr.sep i j o o' k (up a) b (up c) d,λi o k a=>hr.mine i o k (up a),λi o k a=>hr.vout i o k (up a),hr.vlt,hr.vin,hr.vnew,hr.fr,hr.gl⟩;have a:=h1.obj i o hi;have b:=hr.obj i o (up hi);cases o with
 | blk cs t =>obtain ⟨_,mE,_,_,c1⟩:=a;obtain ⟨g,vs,e1,e2,c2⟩:=b;exact ⟨g,vs,e1,e2,Zaa.unapp cs mE vs c1 c2⟩
 | row xs e sz=>exact b
 | many l ts =>obtain ⟨b1,b2,b3⟩:=b;refine ⟨b1,b2,λt ht=>?_⟩;obtain ⟨o1,q1,_⟩:=a.2.2 t ht;obtain ⟨o2,q2,q3⟩:=b3 t ht;rw[up q1] at q2;injection q2 with e;subst e;exact ⟨o1,q1,q3⟩
 | dead=>trivial
theorem Zsc (h:Zae) (o:Obj):Zb4 (h++[o]) [h.length]=h++[.dead]:=by simp[Zb4]
theorem LeH.unapp {h h':Zae} {x:Obj} {β β':Nat->Value} (hl:h'.length=h.length) (hle:LeH h β (h'++[x]) β'):LeH h β h' β':=λi o hi=>by obtain ⟨o',a,b,c⟩:=hle i o hi;rw[Yal (by rw[hl];exact (Yac.1 hi).1)] at a;exact ⟨o',a,b,c⟩
theorem ZpP.unapp [CA] {T:Tab} {L:List Oper} {lo:Nat} {X:Nat->Bool} {C:Ctx} {h:Zae} {x:Obj} {β:Nat->Value} {V:Nat->Prop} {tm:Array Value} {w:World} (hp:ZpP T L lo X C (h++[x]) β V tm w):ZpP T L lo X C h β V tm w:=by obtain ⟨γ,h1,h2⟩:=hp;refine ⟨γ,λk o hk aT hf hx=>?_,h2⟩;obtain ⟨s,t,i,e1,e2,e3,e4,e5,e6,e7,e8⟩:=h1 k o hk aT hf hx;exact ⟨s,t,i,e1,e2,e3,e4,e5,e6,e7,λi' o' q1 q2 q3=>e8 i' o' (by rw[Yal (Yac.1 q1).1];exact q1) q2 q3⟩
def ZCT [CA] (C:Ctx) (n:Nat) (T:Tab) (L:List Oper) (lo:Nat) (st:St) (a:Act) (w:World):Prop :=
 a.tmps.size=n/\a.defers=st.df/\∃β V,RelD C st.h β V w/\ZbS st β V w a/\ZpP T L lo (λ_=>true) C st.h β V a.tmps w
def Zhy [CA] (T:Tab) (K:St->Prop) (l:List Oper):St->Prop :=
 List.rec (motive:=λ_=>St->Prop) K (λo _ next st=>bif ZkB o then (match o.op,o.dst,st with
  | .alloc t,some s,⟨env,h,df⟩=>match T t with
   | some i=>next ⟨env.set s (.ptr h.length 0),h++[.blk (i.zero.map of1) t],df⟩
   | none=>False
  | _,_,_=>False) else next st) l
theorem ZfZ {h:Zae} {o:Obj} {i:Nat} {o':Obj} (hi:(h++[o])[i]?=some o'):(i=h.length/\o'=o)\/(i < h.length/\h[i]?=some o'):=by
 by_cases hl:i < h.length
 ·rw[Yal hl] at hi;exact .inr ⟨hl,hi⟩
 ·rw[Yaj (by omega)] at hi;have:i - h.length=0:=by have:=(Yac.1 hi).1;simp at this;omega
  rw[this] at hi;simp at hi;exact .inl ⟨by omega,hi.symm⟩
theorem RelD.adopt {C:Ctx} {h:Zae} {β:Nat->Value} {V:Nat->Prop} {w:World} (hr:RelD C h β V w) {g:Nat} {t:TypeId} {vs:List Value} {ds:List D} (hg:w.heap[g]?=some (.cells ⟨vs⟩ t (0,0))) (hd:Zaa h β V w ds vs) (hv:¬V g) (hm:C.w0.heap.size<=g\/C.own g)
  (hu:∀(i:Nat) (o:Obj),h[i]?=some o->o.live=true->¬Bk o (β i) g):RelD C (h++[.blk ds t]) (upf β h.length (.pointer (some ⟨g,0,none⟩))) V w:=by
 have le:=ZdS h β (.blk ds t) (.pointer (some ⟨g,0,none⟩));have bg:∀k,Bk (.blk ds t) (upf β h.length (.pointer (some ⟨g,0,none⟩)) h.length) k->k=g:=λk hk=>by rw[ZbT] at hk;simp only[Bk,bk,Ybg] at hk;exact hk.symm
 refine ⟨λj o hj=>?_,λj1 j2 o1 o2 k h1 l1 h2 l2 k1 k2=>?_,λj o k hj hl hk=>?_,λj o k hj hl hk=>?_,hr.vlt,hr.vin,hr.vnew,hr.fr,hr.gl⟩
 ·rcases ZfZ hj with ⟨rfl,rfl⟩ | ⟨hl,hj⟩
  ·exact ⟨g,vs,ZbT _ _ _,hg,Zaa.mono le (ZaI.refl _ _) _ _ hd⟩
  ·cases fb:o.live with
   | false=>cases o<;>simp_all [Obj.live,Zco]
   | true=>exact (hr.obj j o hj).keep le (ZaI.refl V w) (ZdA (by omega)) (λ_ _=>rfl)
 ·rcases ZfZ h1 with ⟨rfl,rfl⟩ | ⟨a1,h1⟩<;>rcases ZfZ h2 with ⟨rfl,rfl⟩ | ⟨a2,h2⟩
  ·rfl
  ·have:=bg k k1;subst this;rw[ZdA (by omega)] at k2;exact absurd k2 (hu j2 o2 h2 l2)
  ·have:=bg k k2;subst this;rw[ZdA (by omega)] at k1;exact absurd k1 (hu j1 o1 h1 l1)
  ·rw[ZdA (by omega)] at k1 k2;exact hr.sep j1 j2 o1 o2 k h1 l1 h2 l2 k1 k2
 ·rcases ZfZ hj with ⟨rfl,rfl⟩ | ⟨a1,hj⟩
  ·rw[bg k hk];exact hm
  ·rw[ZdA (by omega)] at hk;exact hr.mine j o k hj hl hk
 ·rcases ZfZ hj with ⟨rfl,rfl⟩ | ⟨a1,hj⟩
  ·rw[bg k hk];exact hv
  ·rw[ZdA (by omega)] at hk;exact hr.vout j o k hj hl hk
theorem ZcF [CA] {C:Ctx} {n:Nat} {T:Tab} {L:List Oper} {a:Act} {w:World} {K:St->Prop}:∀(l:List Oper) (p:Nat),L.drop p=l->∀st:St,ZCT C n T L p st a w->Zhy T K l st->∃aw,Rel C n aw a w/\K aw
 | [],p,_,st,⟨h1,h2,β,V,h3,h4,_⟩,hk=>⟨st,⟨h1,h2,β,V,h3,h4⟩,hk⟩
 | o :: l,p,hL,st,⟨h1,h2,β,V,h3,h4,h5⟩,hk=>by
  have hp:L[p]?=some o:=by have:=congrArg (λl=>l[0]?) hL;simpa using this
  have pj:L.drop (p+1)=l:=by have:=congrArg List.tail hL;simpa using this
  have less:∀{h:Zae} {β:Nat->Value},ZpP T L p (λ_=>true) C h β V a.tmps w->ZpP T L (p+1) (λ_=>true) C h β V a.tmps w:=λ⟨γ,q1,q2⟩ =>
   ⟨γ,λk o hk aT hf hx=>q1 k o hk (by omega) hf hx,λk k' o o' a1 a2 a3 a4 a5 a6 a7 a8=>q2 k k' o o' a1 a2 (by omega) (by omega) a5 a6 a7 a8⟩
  cases bL:ZkB o with
  | false =>
   have ae:Zhy T K l st:=by simp only[Zhy,bL,cond_false] at hk;exact hk
   exact ZcF l (p+1) pj st ⟨h1,h2,β,V,h3,h4,less h5⟩ ae
  | true =>
   obtain ⟨γ,q1,q2⟩:=h5;obtain ⟨s,t,i,e1,e2,e3,e4,e5,e6,e7,e8⟩:=q1 p o hp (Yas _) bL rfl;have aL:=h3.adopt (g:=γ p) (vs:=i.zero) (ds:=i.zero.map of1) e5 (Zfw _) e6 e7 e8;have ae:Zhy T K l ⟨st.env.set s (.ptr st.h.length 0),st.h++[.blk (i.zero.map of1) t],st.df⟩:=by simp only[Zhy,bL,cond_true,e1,e2,e3] at hk;exact hk
   refine ZcF l (p+1) pj ⟨st.env.set s (.ptr st.h.length 0),st.h++[.blk (i.zero.map of1) t],st.df⟩ ⟨h1,h2,_,V,aL,λk=>?_,⟨γ,λk o' hk aT hf hx=>?_,λk k' o o' a1 a2 a3 a4 a5 a6 a7 a8=>q2 k k' o o' a1 a2 (by omega) (by omega) a5 a6 a7 a8⟩⟩ ae
   ·show Zab _ _ V w (Env.set st.env s (.ptr st.h.length 0) k) _;simp only[Env.set];by_cases lW:k=s
    ·subst lW;rw[YaY,e4];simp only[cond_true,Zab];rw[Yaj (Yas _)];simp only[Ybq,List.getElem?_cons_zero];exact ⟨γ p,ZbT _ _ _,rfl⟩
    ·rw[Zc5 lW];exact Zab.mono (ZdS _ _ _ _) (ZaI.refl V w) _ _ (h4 k)
   ·obtain ⟨s',t',i',f1,f2,f3,f4,f5,f6,f7,f8⟩:=q1 k o' hk (by omega) hf rfl;refine ⟨s',t',i',f1,f2,f3,f4,f5,f6,f7,λj oj hj hl hb=>?_⟩;rcases ZfZ hj with ⟨rfl,rfl⟩ | ⟨a1,hj⟩
    ·rw[ZbT] at hb;simp only[Bk,bk,Ybg] at hb;have:=q2 p k o o' hp hk (Yas _) (by omega) bL hf rfl rfl hb;omega
    ·rw[ZdA (by omega)] at hb;exact f8 j oj hj hl hb
set_option maxHeartbeats 1600000 in
theorem Zju [CA] (hT:TabOk P T) (hF:∀g,F g=true->fnOk P g=true) {id:Nat} {ops:Array Oper} (S:List Nat) (hs:∀k∈ZbK (.region id ops true),k < n) (hm:∀k∈ZbK (.region id ops true),inL S k=true) {pp:Option Nat} {Qp:D->Prop} {post:Exit->Act->World->Prop} {a:Act}
  (cW:∀(i:Nat) (o:Oper),ops.toList[i]?=some o->(∀e∈Zac o,e < i)/\∀(k:Nat) (p:Oper),(ops.toList.take i)[k]?=some p->Zdp pp ops o p=true->Nat.testBit (ZaP (ZaF (ops.toList.take i)) (Zac o)) k=true)
  (pre r tail:List Oper) (hL:ops.toList=(pre++r)++tail) {env:Env} {hh:Zae} {df:List Deferred} {K:St->Prop} (hv:ZmK P T F C.G pp Qp ops r pre (ZaF pre) (List.replicate (Za6 pre+1) hh) env df [] K)
  (ly:∀(o:Oper),ops.toList[(pre++r).length]?=some o->∀j,j < (pre++r).length->Nat.testBit (ZaP (ZaF (ops.toList.take (pre++r).length)) (Zac o)) j=true)
  (km:∀(i:Nat) (o:Oper),ops.toList[i]?=some o->(pre++r).length < i->Nat.testBit (ZaP (ZaF (ops.toList.take i)) (Zac o)) (pre++r).length=true)
  (iV:∀(dp:D) (e:Env) (h':Zae) (ch:List PanicEntry) (a':Act) (w':World),Qp dp->XOk (.panic ch) (.pan dp) ⟨e,h',df⟩ a' w' C n->ZaL S a a'->post (.panic ch) a' w')
  (oT:∀(fuel:Nat) (listed:Array Bool) (a':Act) (w':World) (st:St),K st->ZCT C n T (pre++r) pre.length st a' w'->ZaL S a a'->listed.size=ops.size->(∀i,listed.getD i false=decide (i < (pre++r).length))->(List.range ops.size).countP (λi=>!listed.getD i false)<=fuel->wpAny P .any ops post fuel listed a' w') :
  ∀(fuel:Nat) (listed:Array Bool) (a':Act) (w':World),listed.size=ops.size->(List.range ops.size).countP (λi=>!listed.getD i false)<=fuel->(∀i,listed.getD i false=decide (i < pre.length))->Rel C n ⟨env,hh,df⟩ a' w'->ZaL S a a'->wpAny P .any ops post fuel listed a' w':=by
 obtain ⟨pv,jv,Lf,rQ,xr,ua,jd⟩:=Zry r pre (List.replicate (Za6 pre+1) hh) env env df [] K hv (Ref.refl env) (by simp);generalize hH:Zd7 ([]:Zae) (List.replicate (Za6 pre+1) hh++jv)=H at ua jd;have sF:∀j,j<=Za6 pre->H j=hh:=λj hj=>by rw[<- hH];exact Zqk (by omega)
 generalize my:pre++r=L at *;have aT:pre.length<=L.length:=by rw[<- my];simp
 generalize jc:pre.map (ZrT env)++pv=fs;have bL:fs.length=L.length:=by rw[<- jc,<- my];simp[rQ]
 have ug:∀{i:Nat} {o:Oper},L[i]?=some o->ops.toList[i]?=some o:=fun {i o} h=>by rw[hL,Yal (Yac.1 h).1];exact h
 have mL:∀{i:Nat} {o:Oper},i < L.length->ops.toList[i]?=some o->L[i]?=some o:=fun {i o} hi h=>by rwa [hL,Yal hi] at h
 have dn:∀{i:Nat},i<=L.length->ops.toList.take i=L.take i:=fun {i} hi=>by rw[hL,Ybp hi]
 have ek:∀(i:Nat) (o:Oper),L[i]?=some o->(∀e∈Zac o,e < i)/\∀(k:Nat) (p:Oper),(L.take i)[k]?=some p->Zdp pp ops o p=true->Nat.testBit (ZaP (ZaF (L.take i)) (Zac o)) k=true:=λi o hi=>by have h1:=cW i o (ug hi);rwa [dn (Nat.le_of_lt (Yac.1 hi).1)] at h1
 have jV:L.take pre.length=pre:=by rw[<- my];simp
 have qT:fs.take pre.length=pre.map (ZrT env):=by rw[<- jc];exact List.take_left' (by simp)
 have je:∀(i:Nat) (o:Oper) (f:Fact),L[i]?=some o->fs[i]?=some f->pre.length<=i ->
   FactAt pp P T F C.G Qp ops o f (foldE env (L.take i) (fs.take i)) H (Za6 (L.take i)) (ZpF (ZaP (ZaF (L.take i)) (Zac o)) (L.take i)) df /\
   (f.dd=true->∃p,Nat.testBit (ZaP (ZaF (L.take i)) (Zac o)) p=true/\∃f',fs[p]?=some f'/\f'.pn=true):=by
  intro i o f hi hf hle;have e1:L.take i=pre++r.take (i - pre.length):=by rw[<- my,Ybr,Yay hle]
  have e2:fs.take i=pre.map (ZrT env)++pv.take (i - pre.length):=by rw[<- jc,Ybr,Yay (by simpa using hle)];simp
  have h1:r[i - pre.length]?=some o:=by rw[<- my,Yaj hle] at hi;exact hi
  have h2:pv[i - pre.length]?=some f:=by rw[<- jc,Yaj (by simpa using hle)] at hf;simpa using hf
  obtain ⟨k1,k2⟩:=jd _ o f h1 h2;rw[e1,e2,ZjT _ _ _ _ _ (by simp),Zf8];refine ⟨k1,λhd=>?_⟩;obtain ⟨p,hb,hp⟩:=k2 hd;rcases hp with hp | ⟨i',f',rfl,iq,n4⟩
  ·simp at hp
  ·refine ⟨_,hb,f',?_,n4⟩;rw[<- jc,Yaj (by simp)];simpa using iq
 have n9:∀(i:Nat) (o:Oper),ops[i]?=some o↔ops.toList[i]?=some o:=λi o=>by simp
 have b6:∀(i:Nat) (o:Oper),L[i]?=some o->∀e∈Zac o,e < i:=λi o hi e he=>(ek i o hi).1 e he;have ji:∀(o:Oper) (e:Edge),e∈o.after.toList->Region.binds .any e=true->e.on∈Zac o:=by
  intro o e he hb;simp only[Zac,YaO];refine ⟨e,he,?_⟩;unfold Region.binds at hb;cases hg:e.ground<;>rw[hg] at hb<;>first | rfl | (simp at hb)
 have me:∀(o:Oper) (j:Nat),j∈Zac o->∃e∈o.after.toList,e.on=j/\Region.binds .any e=true:=by
  intro o j hj;simp only[Zac,YaO] at hj;obtain ⟨e,he,rS⟩:=hj;refine ⟨e,he,?_⟩;unfold Region.binds;cases hg:e.ground<;>rw[hg] at rS<;>simp_all
 let E:(Nat->Bool)->Env:=λX=>eXr X 0 env L fs
 let M:(Nat->Bool)->Nat:=λX=>Zdl X 0 L 0
 let uQ:(Nat->Bool)->St:=λX=>⟨E X,H (Za6 (L.take (M X))),df⟩
 let RelP:(Nat->Bool)->Act->World->Prop:=λX a' w'=>a'.tmps.size=n/\a'.defers=df/\∃β V,RelD C (H (Za6 (L.take (M X)))) β V w'/\ZbS (uQ X) β V w' a'/\ZpP T L pre.length X C (H (Za6 (L.take (M X)))) β V a'.tmps w'
 have inv:∀(fuel:Nat) (listed:Array Bool) (a':Act) (w':World),listed.size=ops.size->(List.range ops.size).countP (λi=>!listed.getD i false)<=fuel ->
   (∀(i:Nat) (o:Oper),L[i]?=some o->listed.getD i false=true->∀e∈Zac o,listed.getD e false=true)->(∀i,i < pre.length->listed.getD i false=true)->(∀i,L.length<=i->listed.getD i false=false) ->
   RelP (λi=>listed.getD i false) a' w'->ZaL S a a'->(∀(i:Nat) (f:Fact),fs[i]?=some f->listed.getD i false=true->f.pn=false) ->
   wpAny P .any ops post fuel listed a' w':=by
  intro fuel;have done:∀(fuel:Nat) (listed:Array Bool) (a':Act) (w':World),listed.size=ops.size->(List.range ops.size).countP (λi=>!listed.getD i false)<=fuel->(∀i,i < L.length->listed.getD i false=true)->(∀i,L.length<=i->listed.getD i false=false)->RelP (λi=>listed.getD i false) a' w'->ZaL S a a'->(∀(i:Nat) (f:Fact),fs[i]?=some f->listed.getD i false=true->f.pn=false)->wpAny P .any ops post fuel listed a' w':=by
   intro fuel listed a' w' ah bd av eV ab hk gV;refine oT fuel listed a' w' _ (ua rfl (λf hf=>by
    obtain ⟨i,hi,he⟩:=YaR hf;exact gV (pre.length+i) f (by rw[<- jc,Yaj (by simp)];simp[he,hi]) (av _ (by rw[<- my];simp;omega)))) ?_ hk ah (λi=>?_) bd
   rotate_left
   ·by_cases hi:i < L.length
    ·rw[av i hi,decide_eq_true hi]
    ·rw[eV i (by omega),decide_eq_false hi]
   obtain ⟨h1,h2,β,V,h3,h4,h5⟩:=ab;have xx:∀s,E (λi=>listed.getD i false) s=foldE env r pv s:=by
    intro s;have:=Zi5 L fs L.length 0 env bL;rw[YaH,Yay (by omega)] at this;have e3:foldE env r pv=foldE env L fs:=by rw[<- my,<- jc,ZjT _ _ _ _ _ (by simp),Zf8]
    rw[e3,this];refine ZfM _ _ _ _ _ (λk o hk _=>?_) rfl;have aB:k < L.length:=(Yac.1 hk).1;simp only[YaA];rw[av k aB];exact (decide_eq_true aB).symm
   have so:Za6 (L.take (M (λi=>listed.getD i false)))=Za6 L:=by
    have key:∀m,M (λi=>listed.getD i false)<=m->m<=L.length->Za6 (L.take m)=Za6 (L.take (M (λi=>listed.getD i false))):=by
     intro m
     induction m with
     | zero =>
      intro h _;have:M (λi=>listed.getD i false)=0:=by omega
      rw[this]
     | succ m ih =>
      intro hm tw;by_cases he:M (λi=>listed.getD i false)=m+1
      ·rw[he]
      ·have ho:L[m]?=some (L[m]'(by omega)):=Yak (by omega);rw[Zcy _ _ _ ho];cases aY:Zdt (L[m]'(by omega)).op with
       | false=>exact ih (by omega) (by omega)
       | true =>
        have:=Zhf (p:=λi=>listed.getD i false) L 0 0 m _ ho aY (by rw[YaA];exact av m (by omega));have aG:m < M (λi=>listed.getD i false):=by simpa using this
        omega
    have sr:M (λi=>listed.getD i false)<=L.length:=by
     rcases ZcJ (p:=λi=>listed.getD i false) L 0 0 with h | ⟨k,o,hk,_,_,h⟩
     ·show Zdl _ _ _ _<=_;omega
     ·have:=(Yac.1 hk).1;show Zdl _ _ _ _<=_;omega
    have:=key L.length sr (Yas _);rw[YaH] at this;exact this.symm
   refine ⟨h1,h2,β,V,?_,λs=>?_,?_⟩
   rotate_right
   ·rw[so] at h5;obtain ⟨γ,g1,g2⟩:=h5;exact ⟨γ,λk o hk aT hf _=>g1 k o hk aT hf (av k (Yac.1 hk).1),λk k' o o' a1 a2 a3 a4 a5 a6 _ _=>g2 k k' o o' a1 a2 a3 a4 a5 a6 (av k (Yac.1 a1).1) (av k' (Yac.1 a2).1)⟩
   ·have uv:RelD C (H (Za6 (L.take (M (λi=>listed.getD i false))))) β V w':=h3;rw[so] at uv;exact uv
   ·have ur:Zab (H (Za6 (L.take (M (λi=>listed.getD i false))))) β V w' (E (λi=>listed.getD i false) s) (a'.tmps.getD s undef):=h4 s;rw[so,xx s] at ur;exact xr.rep ur
  have mG:∀(listed:Array Bool),listed.size=ops.size->(∀i,i < ops.size->listed.getD i false=false->(∀o,ops[i]?=some o->∀e∈Zac o,listed.getD e false=true)->i∈Region.ready .any ops listed):=by
   intro listed ah i hi hl he;simp only[Region.ready,YbU,Ya1];refine ⟨hi,?_⟩;have aG:listed.getD i true=false:=by rw[Yao] at hl ⊢;rw[YaD (by omega)] at hl ⊢;exact hl
   have gC:ops[i]?=some ops[i]:=YaD hi;rw[aG,gC];simp only[Ycu,Ycc,Option.map_some,Option.getD_some];rw[YbJ];intro k hk;simp only[YaZ,YaS];by_cases hb:Region.binds .any ops[i].after[k]=true
   ·right;exact he _ gC _ (ji ops[i] ops[i].after[k] (by simp) hb)
   ·left;simpa using hb
  have yE:L.length<=ops.size:=by have:=congrArg List.length hL;simp at this;omega
  have first:∀(listed:Array Bool),listed.size=ops.size->(¬ ∀i,i < L.length->listed.getD i false=true)->Region.ready .any ops listed≠[]:=by
   intro listed ah hn dQ;refine hn (λi=>?_)
   induction i using Nat.strongRecOn with
   | _ i ih =>
    intro hi;by_cases hl:listed.getD i false=true
    ·exact hl
    ·exfalso;have ax:=mG listed ah i (by omega) (by simpa using hl) (λo ho e he=>by
      have aG:=b6 i o (mL hi ((n9 i o).1 ho)) e he;exact ih e aG (by omega))
     rw[dQ] at ax;simp at ax
  induction fuel with
  | zero =>
   intro listed a' w' ah bd bt lU eV ab hk gV;have av:∀i,i < L.length->listed.getD i false=true:=by
    intro i hi;have h0:(List.range ops.size).countP (λi=>!listed.getD i false)=0:=by omega
    rw[List.countP_eq_zero] at h0;have:=h0 i (Ya1.2 (by omega));simpa using this
   exact done 0 listed a' w' ah bd av eV ab hk gV
  | succ fuel ih =>
   intro listed a' w' ah bd bt lU eV ab hk gV;by_cases av:∀i,i < L.length->listed.getD i false=true
   ·exact done (fuel+1) listed a' w' ah bd av eV ab hk gV
   refine ⟨λdQ=>absurd dQ (first listed ah av),λi hi=>?_⟩;simp only[Region.ready,YbU,Ya1,Yag,YaS] at hi;obtain ⟨az,ct,dP⟩:=hi;have fE:listed.getD i false=false:=by rw[Yao] at ct ⊢;rw[YaD (by omega)] at ct ⊢;exact ct
   have gC:ops[i]?=some ops[i]:=YaD az;generalize ho:ops[i]=o at gC;have fA:ops.toList[i]?=some o:=(n9 i o).1 gC;have aS:∀e∈Zac o,listed.getD e false=true:=by
    intro j hj;obtain ⟨e,he,rfl,hb⟩:=me o j hj;rw[gC] at dP;simp only[Option.map_some,Option.getD_some] at dP;rw[YbJ] at dP;obtain ⟨k,hk,eJ⟩:=YaR he;have:=dP k (by simpa using hk);simp only[YaZ,YaS] at this;have lZ:o.after[k]'(by simpa using hk)=e:=by simpa using eJ
    rw[lZ] at this;rcases this with h1 | h1
    ·rw[hb] at h1;cases h1
    ·exact h1
   let X:Nat->Bool:=λk=>listed.getD k false
   have r8:X i=false:=fE;have rm:pre.length<=i:=by
    apply YaN;intro hn;have:=lU i (by omega);rw[fE] at this;cases this
   have oB:i < L.length:=by
    apply YaN;intro hn;have nU:=Zf2 (X:=X) L (λk p aH dM e he=>bt k p aH dM e he) (λk p aH e he=>b6 k p aH e he);by_cases gF:i=L.length
    ·refine av (λj hj=>?_);have hb:=ly o (by rw[<- gF];exact fA) j hj;rw[dn (Yas _),YaH] at hb;exact nU.2 (Zac o) aS (λe he=>by have:=(cW i o fA).1 e he;omega) j hb
    ·have hb:=km i o fA (by omega);have mn:∀(k:Nat) (p:Oper),(ops.toList.take i)[k]?=some p->X k=true->∀e∈Zac p,X e=true:=λk p aH dM e he=>by
      have aN:k < i:=by have:=(Yac.1 aH).1;simp at this;omega
      rw[Yaw aN] at aH;by_cases aB:k < L.length
      ·exact bt k p (mL aB aH) dM e he
      ·rw[show X k=false from eV k (by omega)] at dM;cases dM
     have iP:=Zf2 (X:=X) (ops.toList.take i) mn (λk p aH e he=>by
      have aN:k < i:=by have:=(Yac.1 aH).1;simp at this;omega
      rw[Yaw aN] at aH;exact (cW k p aH).1 e he)
     have:=iP.2 (Zac o) aS (λe he=>by have:=(cW i o fA).1 e he;simp;omega) _ hb;rw[show X L.length=false from eV _ (Yas _)] at this;cases this
   have dr:L[i]?=some o:=mL oB fA;obtain ⟨f,jb⟩:∃f,fs[i]?=some f:=⟨fs[i]'(by rw[bL];exact oB),Yak _⟩;obtain ⟨kc,oO⟩:=je i o f dr jb rm;have aF:=Zf2 (X:=X) (L.take i) (λk p aH dM e he=>by
     have aN:k < i:=by have:=(Yac.1 aH).1;simp at this;omega
     rw[Yaw aN] at aH;exact bt k p aH dM e he) (λk p aH e he=>by
     have aN:k < i:=by have:=(Yac.1 aH).1;simp at this;omega
     rw[Yaw aN] at aH;exact b6 k p aH e he)
   have before:∀(k:Nat) (p:Oper),k < i->L[k]?=some p->Zdp pp ops o p=true->X k=true:=by intro k p aN aH hc;have hb:=(ek i o dr).2 k p (by rw[Yaw aN];exact aH) hc;exact aF.2 (Zac o) aS (λe he=>by have:=b6 i o dr e he;simp;omega) k hb
   have later:∀(k:Nat) (p:Oper),i < k->L[k]?=some p->Zdp pp ops p o=true->X k=false:=by
    intro k p aN aH hc;cases dM:X k with
    | false=>rfl
    | true =>
     exfalso;have hb:=(ek k p aH).2 i o (by rw[Yaw aN];exact dr) hc;have nS:=Zf2 (X:=X) (L.take k) (λm q dY mY e he=>by
       have gY:m < k:=by have:=(Yac.1 dY).1;simp at this;omega
       rw[Yaw gY] at dY;exact bt m q dY mY e he) (λm q dY e he=>by
       have gY:m < k:=by have:=(Yac.1 dY).1;simp at this;omega
       rw[Yaw gY] at dY;exact b6 m q dY e he)
     have aB:k < L.length:=(Yac.1 aH).1;have:=nS.2 (Zac p) (bt k p aH dM) (λe he=>by have:=b6 k p aH e he;simp;omega) i hb;rw[r8] at this;cases this
   have od:∀s∈o.looksAt ops,E X s=foldE env (L.take i) (fs.take i) s:=by
    intro s kG;rw[Zi5 L fs i 0 env bL];refine ZfM _ _ _ _ _ (λk p aH hd=>?_) rfl;simp only[YaA];rcases Ycd k i with aN | aN | aN
    ·have:Zdp pp ops o p=true:=by
      cases hc:Zdp pp ops o p with
      | true=>rfl
      | false=>exact absurd kG ((confl_symm_reads hc).2.1 s hd)
     rw[before k p aN aH this];exact (decide_eq_true aN).symm
    ·subst aN;rw[r8];simp
    ·have:Zdp pp ops p o=true:=by
      cases hc:Zdp pp ops p o with
      | true=>rfl
      | false=>exact absurd kG ((confl_symm_reads hc).1 s hd)
     rw[later k p aN aH this];exact (decide_eq_false (by omega)).symm
   have fV:∀(k:Nat) (p:Oper),L[k]?=some p->Zdt p.op=true->(X k=true↔k < M X):=by
    intro k p aH aY;constructor
    ·intro dM;have:=Zhf (p:=X) L 0 0 k p aH aY (by rw[YaA];exact dM);simpa using this
    ·intro aG;rcases ZcJ (p:=X) L 0 0 with h0 | ⟨j,q,gi,lF,iw,hj⟩
     ·have:M X=0:=h0;omega
     ·have xn:M X=j+1:=by show Zdl X 0 L 0=j+1;omega
      rw[YaA] at iw;by_cases oq:k=j
      ·subst oq;exact iw
      ·have rl:k < j:=by omega
       have hc:Zdp pp ops q p=true:=by
        cases hc:Zdp pp ops q p with
        | true=>rfl
        | false=>have:=(confl_symm_reads hc).2.2.2.1;rw[lF,aY] at this;cases this
       have hb:=(ek j q gi).2 k p (by rw[Yaw rl];exact aH) hc;have nT:=Zf2 (X:=X) (L.take j) (λm q dY mY e he=>by
         have gY:m < j:=by have:=(Yac.1 dY).1;simp at this;omega
         rw[Yaw gY] at dY;exact bt m q dY mY e he) (λm q dY e he=>by
         have gY:m < j:=by have:=(Yac.1 dY).1;simp at this;omega
         rw[Yaw gY] at dY;exact b6 m q dY e he)
       have aD:j < L.length:=(Yac.1 gi).1;exact nT.2 (Zac q) (bt j q gi iw) (λe he=>by have:=b6 j q gi e he;simp;omega) k hb
   obtain ⟨iI,mg,β,V,bX,gk,kH⟩:=ab;have qF:∀s,.tmp s∈o.op.operands->s∈o.looksAt ops:=λs hs=>List.mem_append_left _ (YaO.2 ⟨.tmp s,by simpa using hs,rfl⟩);have kT:∀s∈o.looksAt ops,Zab (H (Za6 (L.take (M X)))) β V w' (f.L s) (a'.tmps.getD s undef):=by intro s kG;have h1:Zab (H (Za6 (L.take (M X)))) β V w' (E X s) (a'.tmps.getD s undef):=gk s;rw[od s kG] at h1;exact kc.ref.rep h1
   have iC:Region.wanted o (yielded ops a'.tmps)=f.run:=by
    have hg:=kc.guard;unfold Zeu at hg;cases dv:o.guard with
    | none=>rw[dv] at hg;simp[Region.wanted,dv,hg]
    | some g =>
     obtain ⟨j,b⟩:=g;rw[dv] at hg;simp only at hg;have gz:Region.wanted o (yielded ops a'.tmps)=(yielded ops a'.tmps j == some b):=by simp[Region.wanted,dv]
     rw[gz];cases hd:(ops[j]?).bind (·.dst) with
     | none =>
      rw[hd] at hg;have:yielded ops a'.tmps j=none:=by unfold yielded;rw[hd];rfl
      rw[this,hg];rfl
     | some s =>
      rw[hd] at hg;simp only at hg;have kG:s∈o.looksAt ops:=by unfold Oper.looksAt;refine List.mem_append_right _ ?_;rw[dv];simp[hd]
      have ca:=kT s kG;rw[Zjc hd];rcases hg with ⟨c,e1,e2⟩ | ⟨l,e1,e2⟩
      ·rw[e1] at ca;simp only[Zab,ZaS] at ca;rw[ca,e2];rfl
      ·rw[e1] at ca;simp only[Zab] at ca;obtain ⟨us,dh,_⟩:=ca;rw[dh,e2];rfl
   have mW:∀d,o.dst=some d->d < n/\inL S d=true:=λd hd=>by
    have lP:d∈ZbK (.region id ops true):=by simp only[ZbK,YaO];exact ⟨o,YaL fA,hd⟩
    exact ⟨hs d lP,hm d lP⟩
   let X':Nat->Bool:=λk=>(listed.setIfInBounds i true).getD k false
   have dj:∀k,X' k=if k=i then true else X k:=λk=>ZbM (by omega) false;have oI:∀s,E X' s=if o.dst=some s then f.d else E X s:=by
    intro s;by_cases hd:o.dst=some s
    ·rw[if_pos hd];refine Zx1 L fs 0 env i o f dr jb hd (by rw[YaA,dj,if_pos rfl]) (λk p rH aH bF=>?_);rw[YaA,dj,if_neg (by omega)];have hc:Zdp pp ops p o=true:=by
      cases hc:Zdp pp ops p o with
      | true=>rfl
      | false=>exact absurd hd ((confl_symm_reads hc).2.2.1 s bF)
     exact later k p rH aH hc
    ·rw[if_neg hd];refine ZfM _ _ _ _ _ (λk p aH bF=>?_) rfl;rw[YaA,dj];by_cases aN:k=i
     ·subst aN;rw[dr] at aH;injection aH with e;subst e;exact absurd bF hd
     ·rw[if_neg aN]
   have jN:∀(Pr:Nat->Prop) (lo hi:Nat),lo<=hi->hi<=L.length->(∀m p,lo<=m->m < hi->L[m]?=some p->Zdt p.op=false)->Za6 (L.take hi)=Za6 (L.take lo):=by
    intro _ lo hi hle kP mM
    induction hi with
    | zero =>
     have:lo=0:=by omega
     rw[this]
    | succ m jP =>
     by_cases he:lo=m+1
     ·rw[he]
     ·have bj:L[m]?=some (L[m]'(by omega)):=Yak (by omega);rw[Zcy _ _ _ bj,mM m _ (by omega) (by omega) bj];exact jP (by omega) (by omega) (λk p h1 h2 h3=>mM k p h1 (by omega) h3)
   have jn:∀(k:Nat) (p:Oper),Zdt o.op=true->L[k]?=some p->Zdt p.op=true->(X k=true↔k < i):=by
    intro k p dw aH eo;have hc:∀q r:Oper,Zdt q.op=true->Zdt r.op=true->Zdp pp ops q r=true:=λq r h1 h2=>by
     cases hc:Zdp pp ops q r with
     | true=>rfl
     | false=>have:=(confl_symm_reads hc).2.2.2.1;rw[h1,h2] at this;cases this
    rcases Ycd k i with aN | aN | aN
    ·exact ⟨λ_=>aN,λ_=>before k p aN aH (hc _ _ dw eo)⟩
    ·subst aN;rw[r8];exact ⟨λh=>(by cases h),λh=>absurd h (Ycw _)⟩
    ·rw[later k p aN aH (hc _ _ eo dw)];exact ⟨λh=>(by cases h),λh=>(by omega)⟩
   have tQ:Zdt o.op=true->Za6 (L.take (M X))=Za6 (L.take i)/\Za6 (L.take (M X'))=Za6 (L.take i)+1:=by
    intro dw;have xo:M X<=i:=by
     rcases ZcJ (p:=X) L 0 0 with h0 | ⟨j,q,gi,lF,iw,hj⟩
     ·show Zdl X 0 L 0<=i;omega
     ·rw[YaA] at iw;have:=(jn j q dw gi lF).1 iw;show Zdl X 0 L 0<=i;omega
    refine ⟨(jN (λ_=>True) (M X) i xo (by omega) (λm p h1 h2 tv=>?_)).symm,?_⟩
    ·cases eo:Zdt p.op with
     | false=>rfl
     | true =>have:=(fV m p tv eo).1 ((jn m p dw tv eo).2 h2);omega
    ·have xq:M X'=i+1:=by
      have h1:i < M X':=by have:=Zhf (p:=X') L 0 0 i o dr dw (by rw[YaA,dj,if_pos rfl]);simpa using this
      rcases ZcJ (p:=X') L 0 0 with h0 | ⟨j,q,gi,lF,iw,hj⟩
      ·have:M X'=0:=h0;omega
      ·have xn:M X'=j+1:=by show Zdl X' 0 L 0=j+1;omega
       rw[YaA,dj] at iw;by_cases cL:j=i
       ·omega
       ·rw[if_neg cL] at iw;have:=(jn j q dw gi lF).1 iw;omega
     rw[xq,Zcy _ _ _ dr,dw];rfl
   have p6:Zdt o.op=false->M X'=M X:=by
    intro dw;refine ZjM L 0 0 (λk p aH eo=>?_);rw[YaA,dj];by_cases aN:k=i
    ·subst aN;rw[dr] at aH;injection aH with e;subst e;rw[dw] at eo;cases eo
    ·rw[if_neg aN]
   have next:f.pn=false->∀(v:Value) (bH:World) (β':Nat->Value) (V':Nat->Prop),RelD C (H (Za6 (L.take (M X')))) β' V' bH->Zab (H (Za6 (L.take (M X')))) β' V' bH f.d v ->
     LeH (H (Za6 (L.take (M X)))) β (H (Za6 (L.take (M X')))) β'->ZaI V w' V' bH->ZpP T L pre.length X' C (H (Za6 (L.take (M X')))) β' V' (a'.put o.dst v).tmps bH->wpAny P .any ops post fuel (listed.setIfInBounds i true) (a'.put o.dst v) bH:=by
    intro ed v bH β' V' bO bF hle gW n5;refine ih (listed.setIfInBounds i true) (a'.put o.dst v) bH (by simp[ah]) ?_ ?_ (λk ae=>?_) (λk ae=>?_) ⟨?_,?_,β',V',bO,λs=>?_,n5⟩ (hk.trans (ZaL.put (λd hd=>(mW d hd).2) v)) (λk f' iq dM=>?_)
    ·have:=Zgd (p:=λk=>!listed.getD k false) (q:=λk=>!(listed.setIfInBounds i true).getD k false) (i:=i) (List.range ops.size) Yck (Ya1.2 az) (by simp[fE]) (by have:=dj i;simp only[X'] at this;rw[this];simp) (λj hj=>by have:=dj j;simp only[X'] at this;rw[this,if_neg hj]);omega
    ·intro k p aH dM e he;have dy:X' k=true:=dM;show X' e=true;rw[dj] at dy ⊢;by_cases tN:e=i
     ·rw[if_pos tN]
     ·rw[if_neg tN];by_cases aN:k=i
      ·subst aN;rw[dr] at aH;injection aH with e';subst e';exact aS e he
      ·rw[if_neg aN] at dy;exact bt k p aH dy e he
    ·have:X' k=true:=by rw[dj];by_cases aN:k=i;exact if_pos aN;rw[if_neg aN];exact lU k ae
     exact this
    ·have:X' k=false:=by rw[dj,if_neg (by omega)];exact eV k ae
     exact this
    ·cases o.dst with
     | none=>exact iI
     | some d=>simp[Act.put,iI]
    ·cases o.dst with
     | none=>exact mg
     | some d=>exact mg
    ·show Zab (H (Za6 (L.take (M X')))) β' V' bH (E X' s) ((a'.put o.dst v).tmps.getD s undef);rw[oI s];cases aQ:o.dst with
     | none =>rw[if_neg (by simp)];exact Zab.mono hle gW _ _ (gk s)
     | some d =>
      have:=Zmr (n:=n) (st:=⟨E X,H (Za6 (L.take (M X))),df⟩) (a:=a') gk iI hle gW (i:=d) (mW d aQ).1 bF df s;simp only[Env.set] at this;by_cases nQ:s=d
      ·subst nQ;rw[YaY] at this;rw[if_pos rfl];exact this
      ·rw[Zc5 nQ] at this;rw[if_neg (by intro e;injection e with e;exact nQ e.symm)];exact this
    ·have dy:X' k=true:=dM;rw[dj] at dy;by_cases aN:k=i
     ·subst aN;rw[jb] at iq;injection iq with e';rw[<- e'];exact ed
     ·rw[if_neg aN] at dy;exact gV k f' iq dy
   have gB:∀(v:Value) (k:Nat) (p:Oper) (s:Nat),L[k]?=some p->pre.length<=k->ZkB p=true->k≠i->p.dst=some s->(a'.put o.dst v).tmps.getD s undef=a'.tmps.getD s undef:=by
    intro v k p s aH kK ik aN eG;cases aQ:o.dst with
    | none=>rfl
    | some d =>
     have nQ:s≠d:=by intro e;subst e;obtain ⟨fk,rR⟩:∃fk,fs[k]?=some fk:=⟨fs[k]'(by rw[bL];exact (Yac.1 aH).1),Yak _⟩;have hu:=((je k p fk aH rR kK).1.flt ik).2.2.2.2;simp only[Yag] at hu;have s8:=hu.1.2;rw[eG] at s8;exact aN (ZzF s8 (ug aH) fA eG aQ)
     simp only[Act.put,Yao,Ybs];rw[if_neg (λe=>nQ e.symm)]
   have kx:ZkB o=false->∀(v:Value) {h':Zae} {β':Nat->Value} {V':Nat->Prop} {bH:World},RelD ⟨w',λk=>∃i o,(H (Za6 (L.take (M X))))[i]?=some o/\o.live=true/\Bk o (β i) k,V,C.G⟩ h' β' V' bH->ZpP T L pre.length X' C h' β' V' (a'.put o.dst v).tmps bH:=by
    intro bK v h' β' V' bH aL;have aC:∀(k:Nat) (p:Oper),L[k]?=some p->ZkB p=true->k≠i:=λk p aH ik e=>by
     subst e;rw[dr] at aH;injection aH with e;subst e;rw[bK] at ik;cases ik
    refine kH.step bX aL (λk p aH _ ik hx=>?_) (λk p s aH kK ik _ eG=>gB v k p s aH kK ik (aC k p aH ik) eG);rw[dj,if_neg (aC k p aH ik)] at hx;exact hx
   unfold wpOp;rw[gC];simp only[iC];cases al:f.run with
   | false =>
    obtain ⟨oP,xv⟩:=kc.skip al;have fT:H (Za6 (L.take (M X')))=H (Za6 (L.take (M X))):=by
     cases dw:Zdt o.op with
     | true=>obtain ⟨e1,e2⟩:=tQ dw;rw[e1,e2];exact xv dw
     | false=>rw[p6 dw]
    simp only[YbW,if_false];have ed:f.pn=false:=by
     cases ed:f.pn with
     | false=>rfl
     | true=>have:=(kc.pan ed).1;rw[al] at this;cases this
    have bK:ZkB o=false:=by
     cases ij:ZkB o with
     | false=>rfl
     | true=>have:=(kc.flt ij).2.1;rw[al] at this;cases this
    have:=next ed undef w' β V (by rw[fT];exact bX) (by rw[oP];simp only[Zab];exact ⟨[],rfl,by simp[Zaa]⟩) (by rw[fT];exact LeH.refl _ _) (ZaI.refl _ _) (by rw[fT];exact kx bK undef (Zgf bX))
    exact this
   | true =>
    simp only[if_true];left;cases bK:ZkB o with
    | true =>
     obtain ⟨im,_,rO,_,aQ⟩:=kc.flt bK;obtain ⟨mM,tJ,_⟩:=Zut bK;simp only[Yag] at aQ;obtain ⟨⟨jy,fe⟩,jh⟩:=aQ;obtain ⟨s,cJ⟩:∃s,o.dst=some s:=by
      cases aP:o.dst with
      | none=>rw[aP] at jy;cases jy
      | some s=>exact ⟨s,rfl⟩
     obtain ⟨t,ti,bj,iH⟩:∃t ti,o.op=.alloc t/\T t=some ti:=by
      cases aP:o.op with
      | alloc t =>
       rw[aP] at jh;simp only[Zro] at jh;cases ht:T t with
       | none=>rw[ht] at jh;cases jh
       | some ti=>exact ⟨t,ti,rfl,ht⟩
      | _=>rw[aP] at jh;cases jh
     obtain ⟨inf,z,aJ,_,_,hz,gy⟩:=(hT t ti iH).inf;have nR:(execOp a'.eval o).run P w'=.ok (.value (.pointer (some ⟨w'.heap.size,0,none⟩))) (w'.alloc (.cells ti.zero.toArray t)):=by simp[execOp,bj,Instr.alloc,zeroValue,typeInfo,aJ,hz,newVar,newRow,gy]
     have bS:=Zng bX (Ze4 w' (.cells ti.zero.toArray t));have fT:H (Za6 (L.take (M X')))=H (Za6 (L.take (M X))):=by rw[p6 mM]
     refine Zbu.wp ?_;rw[nR];refine next rO (.pointer (some ⟨w'.heap.size,0,none⟩)) (w'.alloc (.cells ti.zero.toArray t)) β V (by rw[fT];exact bS.1) (by rw[im];simp only[Zab]) (by rw[fT];exact LeH.refl _ _) bS.2 ?_
     rw[fT];obtain ⟨γ,g1,g2⟩:=kH;have bT:∀(k:Nat),k < w'.heap.size->(w'.alloc (.cells ti.zero.toArray t)).heap[k]?=w'.heap[k]?:=λk hk=>(Ze4 w' (.cells ti.zero.toArray t)).block k hk (λh=>h);refine ⟨λk=>if k=i then w'.heap.size else γ k,λk p aH kK ik hx=>?_,λk k' p p' a1 a2 a3 a4 a5 a6 a7 a8 e=>?_⟩
     ·by_cases aN:k=i
      ·subst aN;rw[dr] at aH;injection aH with e;subst e;dsimp only;rw[if_pos rfl];refine ⟨s,t,ti,cJ,bj,iH,?_,heap_alloc_new w' _,λhv=>?_,.inl bX.fr.size,λi' o' q1 q2 q3=>?_⟩
       ·rw[cJ];simp only[Act.put,Yao,Ybs];simp[iI,(mW s cJ).1]
       ·exact absurd (bX.vlt _ hv) (Ycw _)
       ·exact absurd (bX.lt q1 q2 q3) (Ycw _)
      ·rw[dj,if_neg aN] at hx;dsimp only;rw[if_neg aN];obtain ⟨s',t',i',e1,e2,e3,e4,e5,e6,e7,e8⟩:=g1 k p aH kK ik hx;exact ⟨s',t',i',e1,e2,e3,(gB _ k p s' aH kK ik aN e1).trans e4,(bT _ (YaQ.1 e5).1).trans e5,e6,e7,e8⟩
     ·have sW:∀(k:Nat) (p:Oper),L[k]?=some p->pre.length<=k->ZkB p=true->X' k=true->k≠i->γ k < w'.heap.size:=λk p b1 b2 b3 b4 b5=>by rw[dj,if_neg b5] at b4;obtain ⟨_,_,_,_,_,_,_,e5,_⟩:=g1 k p b1 b2 b3 b4;exact (YaQ.1 e5).1
      by_cases aN:k=i<;>by_cases gD:k'=i
      ·rw[aN,gD]
      ·simp only[if_pos aN,if_neg gD] at e;have:=sW k' p' a2 a4 a6 a8 gD;omega
      ·simp only[if_neg aN,if_pos gD] at e;have:=sW k p a1 a3 a5 a7 aN;omega
      ·simp only[if_neg aN,if_neg gD] at e;rw[dj,if_neg aN] at a7;rw[dj,if_neg gD] at a8;exact g2 k k' p p' a1 a2 a3 a4 a5 a6 a7 a8 e
    | false =>
    let L':Env:=λs=>bif inL (o.looksAt ops) s then f.L s else E X s
    have pj:∀s∈o.looksAt ops,L' s=f.L s:=λs hs=>by simp only[L',ZbO.2 hs];rfl
    have jf:ZbS ⟨L',H (Za6 (L.take (M X))),df⟩ β V w' a':=by
     intro s;show Zab _ β V w' (L' s) _;cases hin:inL (o.looksAt ops) s with
     | true=>rw[pj s (ZbO.1 hin)];exact kT s (ZbO.1 hin)
     | false=>simp only[L',hin];exact gk s
    have dC:∀h',ZCS C.G ⟨f.L,h',df⟩ ⟨L',h',df⟩ o.op.operands.toList:=by
     intro h' x hx;cases x with
     | tmp t=>exact (pj t (qF t (by simpa using hx))).symm
     | _=>rfl
    have pJ:f.dd=false:=by
     cases kf:f.dd with
     | false=>rfl
     | true =>
      exfalso;obtain ⟨p,hb,f',iq,n4⟩:=oO kf;have w8:=aF.2 (Zac o) aS (λe he=>by have:=b6 i o dr e he;simp;omega) p hb;have:=gV p f' iq w8;rw[n4] at this;cases this
    cases ed:f.pn with
    | true =>
     obtain ⟨_,_,qS⟩:=kc.pan ed;have bj:ZaN P T F C.G o.op ⟨L',H (Za6 (L.take (M X))),df⟩ (λ_ _=>False) (λdp _=>Qp dp) :=
      ZhC (st:=⟨f.L,H (Za6 (L.take (M X))),df⟩) (st':=⟨L',H (Za6 (L.take (M X))),df⟩) rfl (dC _) (qS _)
     refine Zbu.wp (ZjF (st:=⟨L',H (Za6 (L.take (M X))),df⟩) hT hF bj bX jf ?_ ?_)
     ·intro d h' v bH β' V' hq;exact hq.elim
     ·intro d h' t u bH β' V' hq bO bF hle gW;exact iV d L' h' _ a' bH hq ⟨t,u,rfl,iI,mg,β',V',bO,λk=>Zab.mono hle gW _ _ (jf k),bF⟩ hk
    | false =>
    have bj:∃z q:Bool,ZaN P T F C.G o.op ⟨L',H (Za6 (L.take (M X))),df⟩ (λd h=>frz z (H (Za6 (L.take (M X)))).length d h λd h=>frq q (H (Za6 (L.take (M X)))).length d h λd h=>d=f.d/\h=H (Za6 (L.take (M X')))/\(q=true->z=false/\H (Za6 (L.take (M X')))=H (Za6 (L.take (M X))))) (λ_ _=>False):=by
     cases dw:Zdt o.op with
     | true =>obtain ⟨e1,e2⟩:=tQ dw;obtain ⟨z,hz⟩:=(kc.act al dw).1;refine ⟨z,false,ZhC (st:=⟨f.L,H (Za6 (L.take (M X))),df⟩) (st':=⟨L',H (Za6 (L.take (M X))),df⟩) rfl (dC _) ?_⟩;rw[e1,e2];refine hz _ ?_;exact (show _/\_/\_ from ⟨rfl,rfl,λhq=>by cases hq⟩)
     | false =>
      obtain ⟨q,hz⟩:=kc.quiet bK al dw ed pJ;refine ⟨false,q,ZhC (st:=⟨f.L,H (Za6 (L.take (M X))),df⟩) (st':=⟨L',H (Za6 (L.take (M X))),df⟩) rfl (dC _) ?_⟩;refine hz _ (λd h=>d=f.d/\h=H (Za6 (L.take (M X')))/\(q=true->false=false/\H (Za6 (L.take (M X')))=H (Za6 (L.take (M X))))) ?_ (show _/\_/\_ from ⟨rfl,by rw[p6 dw],λ_=>⟨rfl,by rw[p6 dw]⟩⟩);cases kP:hpl pp o.op with
      | true=>exact .inr rfl
      | false =>
       left;have gG:∀j p,(L.take i)[j]?=some p->Zdt p.op=true->Nat.testBit (ZaP (ZaF (L.take i)) (Zac o)) j=true->j < Zdl (Nat.testBit (ZaP (ZaF (L.take i)) (Zac o))) 0 (L.take i) 0:=by intro j p mT eo hb;have:=Zhf (p:=Nat.testBit (ZaP (ZaF (L.take i)) (Zac o))) (L.take i) 0 0 j p mT eo (by rw[YaA];exact hb);simpa using this
       generalize l7:Zdl (Nat.testBit (ZaP (ZaF (L.take i)) (Zac o))) 0 (L.take i) 0=i0 at gG;have hle:i0<=M X/\i0<=i:=by
        rcases ZcJ (p:=Nat.testBit (ZaP (ZaF (L.take i)) (Zac o))) (L.take i) 0 0 with h0 | ⟨j,q,gi,lF,hb,hj⟩
        ·rw[l7] at h0;omega
        ·rw[l7] at hj;rw[YaA] at hb;have cL:j < i:=by have:=(Yac.1 gi).1;simp at this;omega
         have iw:=aF.2 (Zac o) aS (λe he=>by have:=b6 i o dr e he;simp;omega) j hb;rw[Yaw cL] at gi;have:=(fV j q gi lF).1 iw;omega
       have aT:ZpF (ZaP (ZaF (L.take i)) (Zac o)) (L.take i)=Za6 (L.take i0):=by unfold ZpF;rw[l7,YbK,Ybd hle.2]
       rw[aT];have yD:M X<=L.length:=by
        rcases ZcJ (p:=X) L 0 0 with h0 | ⟨j,q,gi,_,_,hj⟩
        ·show Zdl X 0 L 0<=_;omega
        ·have:=(Yac.1 gi).1;show Zdl X 0 L 0<=_;omega
       have chain:∀m,i0<=m->m<=M X->Ex (H (Za6 (L.take i0))) (H (Za6 (L.take m))):=by
        intro m
        induction m with
        | zero =>
         intro h1 _;have:i0=0:=by omega
         rw[this];exact Ex.refl _
        | succ m jP =>
         intro h1 h2;by_cases he:i0=m+1
         ·rw[he];exact Ex.refl _
         ·have bj:L[m]?=some (L[m]'(by omega)):=Yak (by omega);generalize L[m]'(by omega)=p at bj;refine (jP (by omega) (by omega)).trans ?_;rw[Zcy _ _ _ bj];cases eo:Zdt p.op with
          | false=>exact Ex.refl _
          | true =>
           simp only[cond_true];obtain ⟨fm,gI⟩:∃fm,fs[m]?=some fm:=⟨fs[m]'(by rw[bL];omega),Yak _⟩;by_cases vZ:m < pre.length
           ·have e1:Za6 (L.take m)+1=Za6 (L.take (m+1)):=by rw[Zcy _ _ _ bj,eo];rfl
            have e2:Za6 (L.take (m+1))<=Za6 pre:=by
             have e3:L.take (m+1)=pre.take (m+1):=by rw[<- jV,YbK,Ybd (by omega)]
             rw[e3];exact Zec _ _
            rw[sF _ (by omega),sF _ (by omega)];exact Ex.refl _
           have oH:=(je m p fm bj gI (by omega)).1;cases te:fm.run with
           | false=>rw[(oH.skip te).2 eo];exact Ex.refl _
           | true =>
            refine (oH.act te eo).2 ?_;cases pM:ZlY pp p.op with
            | false=>rfl
            | true =>
             exfalso;have mY:=(fV m p bj eo).2 (by omega);rcases Ycd m i with mN | mN | mN
             ·have hc:Zdp pp ops o p=true:=by
               cases hc:Zdp pp ops o p with
               | true=>rfl
               | false=>have:=(confl_symm_reads hc).2.2.2.2.2 pM;simp[Zz9,kP,bK] at this
              have hb:=(ek i o dr).2 m p (by rw[Yaw mN];exact bj) hc;have:=gG m p (by rw[Yaw mN];exact bj) eo hb;omega
             ·subst mN;rw[dr] at bj;injection bj with e;subst e;rw[dw] at eo;cases eo
             ·have hc:Zdp pp ops p o=true:=by
               cases hc:Zdp pp ops p o with
               | true=>rfl
               | false=>have:=(confl_symm_reads hc).2.2.2.2.1 pM;simp[Zz9,kP,bK] at this
              rw[later m p mN bj hc] at mY;cases mY
       exact chain (M X) hle.1 (Yas _)
    obtain ⟨z,q,bj⟩:=bj;refine Zbu.wp (ZjF (st:=⟨L',H (Za6 (L.take (M X))),df⟩) hT hF (C:=⟨w',λk=>∃i o,(H (Za6 (L.take (M X))))[i]?=some o/\o.live=true/\Bk o (β i) k,V,C.G⟩) bj (Zgf bX) jf ?_ ?_)
    ·intro d h' v bH β' V' hq dE bF hle gW;have bO:=Znh bX dE;have n5:=kx bK v dE;cases q with
     | true =>
      have lH:∃h0 xs e sz,h'=h0++[Obj.row xs e sz]/\d=.row h0.length/\h0.length=(H (Za6 (L.take (M X)))).length/\.g (.sl sz xs)=f.d/\h0=H (Za6 (L.take (M X')))/\(true=true->z=false/\H (Za6 (L.take (M X')))=H (Za6 (L.take (M X)))):=by
       cases z with
       | false=>exact hq
       | true =>
        obtain ⟨_,_,_,_,_,h0,xs,e,sz,_,_,_,_,_,hz⟩:=Zmm hq;cases (hz rfl).1
      obtain ⟨h0,xs,e,sz,rfl,rfl,fC,e1,e2,e3⟩:=lH;have e4:=e2.trans (e3 rfl).2;have bJ:=Zf7 bO [h0.length];have mK:=n5.kill [h0.length];rw[Zsc] at bJ mK;have xc:RelD C h0 β V w':=by rw[e4];exact bX
      refine next ed v bH β' (ZhQ (h0++[.row xs e sz]) [h0.length] β' V') (by rw[<- e2];exact RelD.unapp xc bJ) ?_ (by rw[<- e2];exact LeH.unapp fC hle) (gW.trans (Zb1 _ _ _ _ _)) (by rw[<- e2];exact mK.unapp)
      rw[<- e1,<- e2];simp only[Zab];refine ZlG (d:=.row _) bO ?_ bF (λj hj=>by simpa [ids] using hj);simp[Zvn]
     | false =>
     cases z with
     | false =>obtain ⟨rfl,rfl,_⟩:=hq;exact next ed v bH β' V' bO bF hle gW n5
     | true =>
      obtain ⟨xs,e,sz,rfl,hi,e1,e2,_⟩:=Zmm hq;refine next ed v bH β' (ZhQ h' [(H (Za6 (L.take (M X)))).length] β' V') (by rw[<- e2];exact Zf7 bO _) ?_ (by rw[<- e2];exact LeH.trans hle (Zf6 _ _ _)) (gW.trans (Zb1 _ _ _ _ _)) (by rw[<- e2];exact n5.kill _)
      rw[<- e1,<- e2];simp only[Zab];refine ZlG (d:=.row _) bO ?_ bF (λj hj=>by simpa [ids] using hj);simp only[Zvn,hi]
    ·intro d h' t u bH β' V' hq;exact hq.elim
 intro fuel listed a' w' ah bd cg ab hk;refine inv fuel listed a' w' ah bd (λi o hi hX e he=>?_) (λi hi=>by rw[cg,decide_eq_true hi]) (λi hi=>by rw[cg];exact decide_eq_false (by omega)) ?_ hk (λi f hf hX=>?_)
 ·rw[cg] at hX ⊢;have:=of_decide_eq_true hX;have:=b6 i o hi e he;exact decide_eq_true (by omega)
 ·obtain ⟨h1,h2,β,V,h3,h4⟩:=ab;have w9:(λi=>listed.getD i false)=λi=>decide (i < 0+pre.length):=by funext i;rw[cg,YaA]
  rw[w9];have xp:M (λi=>decide (i < 0+pre.length))<=pre.length:=by
   rcases ZcJ (p:=λi=>decide (i < 0+pre.length)) L 0 0 with h0 | ⟨j,q,_,_,hb,h0⟩
   ·show Zdl _ _ _ _<=_;omega
   ·have:=of_decide_eq_true hb;show Zdl _ _ _ _<=_;omega
  have xy:∀s,E (λi=>decide (i < 0+pre.length)) s=env s:=by intro s;have:=Zi5 L fs pre.length 0 env bL;rw[jV,qT,Zf8] at this;exact (congrFun this s).symm
  have um:H (Za6 (L.take (M (λi=>decide (i < 0+pre.length)))))=hh:=sF _ (by
   have e3:L.take (M (λi=>decide (i < 0+pre.length)))=pre.take (M (λi=>decide (i < 0+pre.length))):=by rw[<- jV,YbK,Ybd (by rw[jV];exact xp)]
   rw[e3];exact Zec _ _)
  refine ⟨h1,h2,β,V,?_,λs=>?_,⟨λ_=>0,λk o hk aT _ hx=>(by have:=of_decide_eq_true hx;omega),λk k' o o' _ _ a3 _ _ _ a7 _ _=>(by have:=of_decide_eq_true a7;omega)⟩⟩
  ·show RelD C (H (Za6 (L.take (M (λi=>decide (i < 0+pre.length)))))) β V _;rw[um];exact h3
  ·show Zab (H (Za6 (L.take (M (λi=>decide (i < 0+pre.length)))))) β V _ (E (λi=>decide (i < 0+pre.length)) s) _;rw[um,xy s];exact h4 s
 ·rw[cg] at hX;have hi:=of_decide_eq_true hX;rw[<- jc,Yal (by simpa using hi),YaE] at hf;obtain ⟨o,_,rfl⟩:=YaB.1 hf;rfl
def ZzS (ks:List Nat) (i row:Nat):Bool:=ks.all (λk=>bif Nat.blt k i then Nat.testBit row k else bif Nat.beq k i then Nat.beq (row % 2 ^ k) (2 ^ k - 1) else true)
def Zm4 (ks:List Nat):List Oper->Nat->List Nat->Bool
 | [],_,_=>true
 | o :: r,i,acc=>ZzS ks i (ZaP acc (Zac o)) && Zm4 ks r (i+1) (acc++[ZaP acc (Zac o)])
def Zhw:Nat->List Nat->List Nat
 | _,[]=>[]
 | i,m :: l=>(i+m) :: Zhw (i+m+1) l
def ZBA [CA] (lt:Option Nat) (P:Program) (T:Tab) (F:FuncId->Bool) (G:Gl) (all:Array Oper) (Q:Post) (K:St->Prop) (ms:List Nat):List Oper->List Oper->Env->Zae->List Deferred->Prop :=
 List.rec (motive:=λ_=>List Oper->List Oper->Env->Zae->List Deferred->Prop)
  (λr pre env h df=>ZmK P T F G lt (λdp=>∀(e:Env) (h:Zae),Q (.pan dp) ⟨e,h,df⟩) all r pre (ZaF pre) (List.replicate (Za6 pre+1) h) env df [] (Zhy T K r))
  (λm _ next r pre env h df=>ZmK P T F G lt (λdp=>∀(e:Env) (h:Zae),Q (.pan dp) ⟨e,h,df⟩) all (r.take m) pre (ZaF pre) (List.replicate (Za6 pre+1) h) env df []
   (Zhy T (λst=>match r.drop m with
    | o :: r'=>Zjg P T F G all o st (λst'=>match st' with | ⟨dz,h',px⟩=>next r' ((pre++r.take m)++[o]) dz h' px) Q
    | []=>False) (r.take m))) ms
theorem ZsW [CA] {lt:Option Nat} {P:Program} {T:Tab} {F:FuncId->Bool} {G:Gl} {all:Array Oper} {Q:Post} {K:St->Prop} {m:Nat} {l:List Nat} {r pre:List Oper} {env:Env} {h:Zae} {df:List Deferred} :
  ZBA lt P T F G all Q K (m :: l) r pre env h df=ZmK P T F G lt (λdp=>∀(e:Env) (h:Zae),Q (.pan dp) ⟨e,h,df⟩) all (r.take m) pre (ZaF pre) (List.replicate (Za6 pre+1) h) env df []
   (Zhy T (λst=>match r.drop m with
    | o :: r'=>Zjg P T F G all o st (λst'=>match st' with | ⟨dz,h',px⟩=>ZBA lt P T F G all Q K l r' ((pre++r.take m)++[o]) dz h' px) Q
    | []=>False) (r.take m)):=rfl
theorem Zjv {ks:List Nat}:∀(r pre:List Oper) (i0:Nat),Zm4 ks r i0 (ZaF pre)=true->i0=pre.length->∀(i:Nat) (o:Oper),r[i]?=some o->ZzS ks (i0+i) (ZaP (ZaF (pre++r.take i)) (Zac o))=true
 | [],_,_,_,_,i,o,h=>by simp at h
 | o :: r,pre,i0,h,_,0,o',hi=>by simp at hi;subst hi;simp only[Zm4,Yag] at h;simpa using h.1
 | o :: r,pre,i0,h,h0,i+1,o',hi=>by simp only[Zm4,Yag] at h;have h2:=h.2;rw[<- Zgh] at h2;have:=Zjv r (pre++[o]) (i0+1) h2 (by simp[h0]) i o' (by simpa using hi);rw[show i0+(i+1)=i0+1+i from by omega];simpa [List.append_assoc] using this
theorem ZuH {row k j:Nat} (h:row % 2 ^ k=2 ^ k - 1) (hj:j < k):Nat.testBit row j=true:=by
 have h1:Nat.testBit (row % 2 ^ k) j=Nat.testBit row j:=by rw[Nat.testBit_mod_two_pow];simp[hj]
 rw[<- h1,h,Nat.testBit_two_pow_sub_one];exact decide_eq_true hj
set_option maxHeartbeats 1600000 in
theorem ZkT [CA] {lt:Option Nat} (hT:TabOk P T) (hF:∀g,F g=true->fnOk P g=true) {id:Nat} {ops:Array Oper} (S:List Nat) (hs:∀k∈ZbK (.region id ops true),k < n) (hm:∀k∈ZbK (.region id ops true),inL S k=true) {Q:Post} {a:Act} {K:St->Prop} {post:Exit->Act->World->Prop} (ks:List Nat)
  (cW:∀(i:Nat) (o:Oper),ops.toList[i]?=some o->(∀e∈Zac o,e < i)/\∀(k:Nat) (p:Oper),(ops.toList.take i)[k]?=some p->Zdp lt ops o p=true->Nat.testBit (ZaP (ZaF (ops.toList.take i)) (Zac o)) k=true)
  (bm:∀(i:Nat) (o:Oper),ops.toList[i]?=some o->ZzS ks i (ZaP (ZaF (ops.toList.take i)) (Zac o))=true)
  (iT:∀(x:X) (st:St) (e:Exit) (a':Act) (w':World),(match x with | .normal=>K st | x=>Q x st)->XOk e x st a' w' C n->ZaL S a a'->post e a' w') :
  ∀(ms:List Nat) (r pre:List Oper) (env:Env) (h:Zae) (df:List Deferred),ops.toList=pre++r->(∀k∈Zhw pre.length ms,k∈ks)->ZBA lt P T F C.G ops Q K ms r pre env h df ->
  ∀(fuel:Nat) (listed:Array Bool) (a':Act) (w':World),listed.size=ops.size->(List.range ops.size).countP (λi=>!listed.getD i false)<=fuel->(∀i,listed.getD i false=decide (i < pre.length))->Rel C n ⟨env,h,df⟩ a' w'->ZaL S a a'->wpAny P .any ops post fuel listed a' w':=by
 have iV:∀(df:List Deferred) (dp:D) (e:Env) (h':Zae) (ch:List PanicEntry) (a':Act) (w':World),(∀(e:Env) (h:Zae),Q (.pan dp) ⟨e,h,df⟩)->XOk (.panic ch) (.pan dp) ⟨e,h',df⟩ a' w' C n->ZaL S a a'->post (.panic ch) a' w':=λdf dp e h' ch a' w' hq hx hk=>iT (.pan dp) _ _ _ _ (hq e h') hx hk;have ended:∀(fuel:Nat) (listed:Array Bool) (a':Act) (w':World),listed.size=ops.size->(∀i,listed.getD i false=decide (i < ops.toList.length))->post .normal a' w'->wpAny P .any ops post fuel listed a' w':=by
  intro fuel listed a' w' ah av hp;have dQ:Region.ready .any ops listed=[]:=by
   simp only[Region.ready,Yb0,Ya1];intro i hi;have:=av i;rw[decide_eq_true (by simpa using hi)] at this;have aG:listed.getD i true=true:=by rw[Yao] at this ⊢;rw[YaD (by omega)] at this ⊢;exact this
   rw[aG];simp
  exact wpAny_done dQ hp fuel
 intro ms
 induction ms with
 | nil =>
  intro r pre env h df hL lW hv fuel listed a' w' ah bd cg ab hk;refine Zju hT hF S hs hm cW pre r [] (by simpa using hL) hv (λo ho=>?_) (λi o hi aG=>?_) (iV df) (λfuel listed a' w' st hK hr hk ah hl _=>by
   obtain ⟨aw,dG,jH⟩:=ZcF r pre.length (by simp) st hr hK;exact ended fuel listed a' w' ah (λi=>by rw[hl,hL]) (iT .normal aw .normal a' w' jH dG hk)) fuel listed a' w' ah bd cg ab hk
  ·rw[hL] at ho;simp at ho
  ·rw[hL] at hi;have:=(Yac.1 hi).1;omega
 | cons m l ih =>
  intro r pre env h df hL lW hv fuel listed a' w' ah bd cg ab hk;simp only[ZsW] at hv;have qd:ops.toList=(pre++r.take m)++r.drop m:=by rw[Yax,Ya7];exact hL
  by_cases vY:m < r.length
  rotate_left
  ·refine Zju hT hF S hs hm cW pre (r.take m) (r.drop m) qd hv (λo ho=>?_) (λi o hi aG=>?_) (iV df) (λfuel listed a' w' st hK hr hk ah hl _=>?_) fuel listed a' w' ah bd cg ab hk
   ·rw[hL] at ho;have:=(Yac.1 ho).1;simp at this;omega
   ·rw[hL] at hi;have:=(Yac.1 hi).1;simp at this aG;omega
   ·obtain ⟨aw,dG,jH⟩:=ZcF (r.take m) pre.length (by simp) st hr hK;rw[YbM (by omega)] at jH;exact jH.elim
  have hlen:(pre++r.take m).length=pre.length+m:=by simp;omega
  have pP:pre.length+m∈ks:=lW _ (by simp[Zhw]);have ly:∀(o:Oper),ops.toList[(pre++r.take m).length]?=some o->∀j,j < (pre++r.take m).length->Nat.testBit (ZaP (ZaF (ops.toList.take (pre++r.take m).length)) (Zac o)) j=true:=by
   intro o ho j hj;have hb:=Ybf.1 (bm _ o ho) _ pP;rw[hlen] at hb hj ⊢;rw[show Nat.blt (pre.length+m) (pre.length+m)=false from by
    cases hx:Nat.blt (pre.length+m) (pre.length+m) with
    | false=>rfl
    | true=>exact absurd (Yau hx) (by omega),YaY] at hb
   simp only[cond_false,cond_true] at hb;exact ZuH (Yaq hb) hj
  have km:∀(i:Nat) (o:Oper),ops.toList[i]?=some o->(pre++r.take m).length < i->Nat.testBit (ZaP (ZaF (ops.toList.take i)) (Zac o)) (pre++r.take m).length=true:=by intro i o ho hi;have hb:=Ybf.1 (bm _ o ho) _ pP;rw[hlen] at hi ⊢;rw[show Nat.blt (pre.length+m) i=true from Ybo hi] at hb;simpa only[cond_true] using hb
  refine Zju hT hF S hs hm cW pre (r.take m) (r.drop m) qd hv ly km (iV df) (λfuel listed a' w' st hK hr hk ah hl bd=>?_) fuel listed a' w' ah bd cg ab hk;obtain ⟨st,hr,hK⟩:=ZcF (r.take m) pre.length (by simp) st hr hK;have pZ:r.drop m=r[m] :: r.drop (m+1):=Ybi vY;rw[pZ] at hK;simp only at hK;generalize ho:r[m]=o at hK pZ;have dr:ops.toList[pre.length+m]?=some o:=by rw[qd,Yaj (by omega),hlen,Ybq,pZ];rfl
  have gC:ops[pre.length+m]?=some o:=by simpa using dr
  have oA:pre.length+m < ops.size:=by have:=(Yac.1 dr).1;simpa using this
  have xt:ops.toList=((pre++r.take m)++[o])++r.drop (m+1):=by rw[qd,pZ,Yax];simp
  have mW:∀d,o.dst=some d->d < n/\inL S d=true:=λd hd=>by
   have lP:d∈ZbK (.region id ops true):=by simp only[ZbK,YaO];exact ⟨o,YaL dr,hd⟩
   exact ⟨hs d lP,hm d lP⟩
  cases fuel with
  | zero =>
   exfalso;have h0:(List.range ops.size).countP (λi=>!listed.getD i false)=0:=by omega
   rw[List.countP_eq_zero] at h0;have:=h0 (pre.length+m) (Ya1.2 oA);rw[hl,hlen] at this;simp at this
  | succ fuel =>
   have ji:∀(o:Oper) (e:Edge),e∈o.after.toList->Region.binds .any e=true->e.on∈Zac o:=by
    intro o e he hb;simp only[Zac,YaO];refine ⟨e,he,?_⟩;unfold Region.binds at hb;cases hg:e.ground<;>rw[hg] at hb<;>first | rfl | (simp at hb)
   refine ⟨λdQ=>?_,λi hi=>?_⟩
   ·exfalso;have ax:pre.length+m∈Region.ready .any ops listed:=by
     simp only[Region.ready,YbU,Ya1];refine ⟨oA,?_⟩;have rp:listed.getD (pre.length+m) false=false:=by rw[hl,hlen];simp
     have aG:listed.getD (pre.length+m) true=false:=by rw[Yao] at rp ⊢;rw[YaD (by omega)] at rp ⊢;exact rp
     rw[aG,gC];simp only[Ycu,Ycc,Option.map_some,Option.getD_some];rw[YbJ];intro k hk;simp only[YaZ,YaS];by_cases hb:Region.binds .any o.after[k]=true
     ·right;have eP:=(cW _ o dr).1 _ (ji o o.after[k] (by simp) hb);rw[hl,hlen];exact decide_eq_true eP
     ·left;simpa using hb
    rw[dQ] at ax;simp at ax
   ·simp only[Region.ready,YbU,Ya1,Yag,YaS] at hi;obtain ⟨az,ct,dP⟩:=hi;have fE:listed.getD i false=false:=by rw[Yao] at ct ⊢;rw[YaD (by omega)] at ct ⊢;exact ct
    have lK:ops[i]?=some ops[i]:=YaD az;have wu:pre.length+m<=i:=by rw[hl,hlen] at fE;have:=of_decide_eq_false fE;omega
    have gF:i=pre.length+m:=by
     apply YaN;intro aC;generalize bj:ops[i]=p at lK;have pH:ops.toList[i]?=some p:=by simpa using lK
     have hb:=km i p pH (by rw[hlen];omega)
     let X:Nat->Bool:=λk=>listed.getD k false
     have mn:∀(k:Nat) (q:Oper),(ops.toList.take i)[k]?=some q->X k=true->∀e∈Zac q,X e=true:=λk q aH dM e he=>by
      have aN:k < i:=by have:=(Yac.1 aH).1;simp at this;omega
      rw[Yaw aN] at aH;have dy:listed.getD k false=true:=dM;show listed.getD e false=true;rw[hl] at dy ⊢;have:=of_decide_eq_true dy;have:=(cW k q aH).1 e he;exact decide_eq_true (by omega)
     have aS:∀e∈Zac p,X e=true:=by
      intro j hj;simp only[Zac,YaO] at hj;obtain ⟨e,he,rS⟩:=hj;rw[lK] at dP;simp only[Option.map_some,Option.getD_some] at dP;rw[YbJ] at dP;obtain ⟨k,hk,eJ⟩:=YaR he;have:=dP k (by simpa using hk);simp only[YaZ,YaS] at this;have lZ:p.after[k]'(by simpa using hk)=e:=by simpa using eJ
      rw[lZ] at this;have eW:Region.binds .any e=true/\e.on=j:=by
       unfold Region.binds;cases hg:e.ground<;>rw[hg] at rS<;>simp_all
      rcases this with h1 | h1
      ·rw[eW.1] at h1;cases h1
      ·rw[eW.2] at h1;exact h1
     have iP:=Zf2 (X:=X) (ops.toList.take i) mn (λk q aH e he=>by
      have aN:k < i:=by have:=(Yac.1 aH).1;simp at this;omega
      rw[Yaw aN] at aH;exact (cW k q aH).1 e he)
     have:=iP.2 (Zac p) aS (λe he=>by
      have:=(cW i p pH).1 e he;have rF:i<=ops.toList.length:=by simpa using Nat.le_of_lt az
      rw[Yam,Ybd rF];exact this) _ hb
     have h5:listed.getD (pre++r.take m).length false=true:=this;rw[hl] at h5;simp at h5
    subst gF;have rV:(List.range ops.size).countP (λk=>!(listed.setIfInBounds (pre.length+m) true).getD k false)<=fuel:=by have dj:∀k,(listed.setIfInBounds (pre.length+m) true).getD k false=if k=pre.length+m then true else listed.getD k false:=λk=>ZbM (by omega) false;have:=Zgd (p:=λk=>!listed.getD k false) (q:=λk=>!(listed.setIfInBounds (pre.length+m) true).getD k false) (i:=pre.length+m) (List.range ops.size) Yck (Ya1.2 az) (by simp[fE]) (by rw[dj];simp) (λj hj=>by rw[dj,if_neg hj]);omega
    have aZ:=ZjG (all:=ops) (o:=o) (st:=st) (next:=λa2 w2=>wpAny P .any ops post fuel (listed.setIfInBounds (pre.length+m) true) a2 w2) (Qa:=post) hT hF hr (λd hd=>(mW d hd).1) hK (λst' v w2 ae aL=>by
     obtain ⟨dz,h',px⟩:=st';refine ih (r.drop (m+1)) ((pre++r.take m)++[o]) dz h' px xt (λk bS=>lW k ?_) ae fuel _ _ w2 (by simp[ah]) rV (λk=>?_) aL (hk.trans (ZaL.put (λd hd=>(mW d hd).2) v))
     ·have e5:((pre++r.take m)++[o]).length=pre.length+m+1:=by rw[Yab,hlen];rfl
      rw[e5] at bS;simp only[Zhw,Yav];exact .inr bS
     ·rw[ZbM (by omega) false,hl];have e5:((pre++r.take m)++[o]).length=pre.length+m+1:=by rw[Yab,hlen];rfl
      rw[e5,hlen];by_cases cj:k=pre.length+m
      ·rw[if_pos cj];exact (decide_eq_true (by omega)).symm
      ·rw[if_neg cj];by_cases tB:k < pre.length+m
       ·rw[decide_eq_true tB,decide_eq_true (by omega)]
       ·rw[decide_eq_false tB,decide_eq_false (by omega)])
     (λd st' ch w2 hq hx=>iT (.pan d) st' _ a' w2 hq hx hk)
    unfold Zvm at aZ;unfold wpOp;rw[gC];simp only;split
    ·rename_i hw;rw[if_pos hw] at aZ;exact .inl aZ
    ·rename_i hw;rw[if_neg hw] at aZ;exact aZ
def Zzm:Option Nat->Bool
 | some p=>Nat.ble 9992 p
 | none=>false
def Zv6:Option Nat->Option Nat
 | some p=>bif Nat.ble 40000 p then some (p - 40000) else bif Nat.ble 20000 p then some (p - 20000) else bif Nat.beq p 9998 || Nat.beq p 9996 || Nat.beq p 9994 || Nat.beq p 9992 then some 2000 else none
 | none=>none
def ZsV [CA] (P:Program) (T:Tab) (F:FuncId->Bool) (G:Gl) (ops:Array Oper) (Q:Post) (pp:Option Nat) (env:Env) (h:Zae) (df:List Deferred):Prop :=
 bif Zzm pp then ∃ms:List Nat,(ZfN (Zv6 pp) ops ops.toList [] [] && Zm4 (Zhw 0 ms) ops.toList 0 [])=true/\ZBA (Zv6 pp) P T F G ops Q (Q .normal) ms ops.toList [] env h df
 else (ZfN pp ops ops.toList [] []=true)/\ZmK P T F G pp (λdp=>∀(e:Env) (h:Zae),Q (.pan dp) ⟨e,h,df⟩) ops ops.toList [] [] [h] env df [] (Zhy T (Q .normal) ops.toList)
theorem ZpB [CA] (hT:TabOk P T) (hF:∀g,F g=true->fnOk P g=true) (hM:P.follows .mixedOrders=true) {id:Nat} {ops:Array Oper} (S:List Nat) (hs:∀k∈ZbK (.region id ops true),k < n) (hm:∀k∈ZbK (.region id ops true),inL S k=true)
  {env:Env} {hh:Zae} {df:List Deferred} {Q:Post} {pp:Option Nat} (h:ZsV P T F C.G ops Q pp env hh df) {a:Act} {w:World} (hr:Rel C n ⟨env,hh,df⟩ a w) :
  (Code.region id ops true).wp P (λe a' w'=>ZaL S a a'/\∃x st',Q x st'/\XOk e x st' a' w' C n) a w:=by
 have jl:∀pp,ZfN pp ops ops.toList [] []=true->∀(i:Nat) (o:Oper),ops.toList[i]?=some o->(∀e∈Zac o,e < i)/\∀(k:Nat) (p:Oper),(ops.toList.take i)[k]?=some p->Zdp pp ops o p=true->Nat.testBit (ZaP (ZaF (ops.toList.take i)) (Zac o)) k=true:=λpp cp i o hi=>by have:=Zh4 ops.toList [] (by simpa [ZaF] using cp) i o hi;simpa using this
 have dQ:Rel C n ⟨env,hh,df⟩ a { w with drawn:=w.drawn+1 }:=by obtain ⟨h1,h2,β,V,h3,h4⟩:=hr;exact ⟨h1,h2,β,V,h3.drew _,λs=>Zab.mono (w:=w) (w':={ w with drawn:=w.drawn+1 }) (V:=V) (LeH.refl hh β) (λk hk=>⟨hk,rfl⟩) _ _ (h4 s)⟩
 have ba:∀i,(Array.replicate ops.size false).getD i false=decide (i < ([]:List Oper).length):=λi=>by rw[Yao,Ya0];split<;>simp
 refine wp_region_any hM ?_;unfold ZsV at h;cases nP:Zzm pp with
 | false =>
  rw[nP] at h;obtain ⟨cp,hv⟩:=h;refine Zju hT hF S hs hm (Qp:=λdp=>∀(e:Env) (h:Zae),Q (.pan dp) ⟨e,h,df⟩) (jl pp cp) [] ops.toList [] (by simp) (by simpa [ZaF,Za6] using hv) (λo ho=>?_) (λi o hi aG=>?_) (λdp e h' ch a' w' hq hx hk=>⟨hk,.pan dp,_,hq e h',hx⟩) (λfuel listed a' w' st hK hr hk ah hl _=>?_) ops.size (Array.replicate ops.size false) a _ (by simp) (YaC YbD (by simp)) ba dQ (ZaL.refl _ _)
  ·simp at ho
  ·have:=(Yac.1 hi).1;simp at aG;simp at this;omega
  ·have lE:Region.ready .any ops listed=[]:=by
    simp only[Region.ready,Yb0,Ya1];intro i hi;have:=hl i;rw[decide_eq_true (by simpa using hi)] at this;have aG:listed.getD i true=true:=by rw[Yao] at this ⊢;rw[YaD (by omega)] at this ⊢;exact this
    rw[aG];simp
   obtain ⟨aw,dG,jH⟩:=ZcF ops.toList 0 (by simp) st hr hK;exact wpAny_done lE ⟨hk,.normal,aw,jH,dG⟩ fuel
 | true =>rw[nP] at h;obtain ⟨ms,cp,hv⟩:=h;simp only[Yag] at cp;have qO:=Zjv (ks:=Zhw 0 ms) ops.toList [] 0 (by simpa [ZaF] using cp.2) rfl;refine ZkT hT hF S hs hm (Q:=Q) (K:=Q .normal) (a:=a) (Zhw 0 ms) (jl (Zv6 pp) cp.1) (λi o hi=>by have:=qO i o hi;simpa using this) (λx st e a' w' hq hx hk=>⟨hk,x,st,by cases x<;>exact hq,hx⟩) ms ops.toList [] env hh df (by simp) (λk hk=>hk) hv ops.size (Array.replicate ops.size false) a _ (by simp) (YaC YbD (by simp)) ba dQ (ZaL.refl _ _)
def caB:Option Nat->Bool
 | some p=>Nat.beq p 1999 || Nat.beq p 4000 || Nat.beq p 9997 || Nat.beq p 9996 || Nat.beq p 1997 || Nat.beq p 4002 || Nat.beq p 9993 || Nat.beq p 9992 || Nat.beq p 4500 || (Nat.ble 5600 p && Nat.ble p 5699) || (Nat.ble 40000 p && Nat.ble p 49999)
 | none=>false
def caF:Option Nat->Bool
 | some p=>(Nat.ble 3500 p && Nat.ble p 3999) || (Nat.ble 23500 p && Nat.ble p 23999) || Nat.beq p 1998 || Nat.beq p 4001 || Nat.beq p 9995 || Nat.beq p 9994 || Nat.beq p 1997 || Nat.beq p 4002 || Nat.beq p 9993 || Nat.beq p 9992 || Nat.beq p 5500 || (Nat.ble 5600 p && Nat.ble p 5699) || (Nat.ble 40000 p && Nat.ble p 49999)
 | none=>false
def caM:Option Nat->Bool
 | some p=>Nat.beq p 1500
 | none=>false
def caS:Option Nat->Bool
 | some p=>Nat.beq p 4500 || Nat.beq p 2500 || (Nat.ble 5600 p && Nat.ble p 5699) || (Nat.ble 40000 p && Nat.ble p 49999)
 | none=>false
theorem Za9 {ops:Array Oper} {listed:Array Bool} (ah:listed.size=ops.size) {k:Nat}:k∈Region.ready .any ops listed↔k < ops.size/\listed.getD k false=false/\∀o,ops[k]?=some o->∀e∈Zac o,listed.getD e false=true:=by
 simp only[Region.ready,YbU,Ya1,Yag,YaS];constructor
 ·rintro ⟨hk,h1,h2⟩;refine ⟨hk,?_,λo ho e he=>?_⟩
  ·rw[Yao] at h1 ⊢;rw[YaD (by omega)] at h1 ⊢;exact h1
  ·rw[ho] at h2;simp only[Option.map_some,Option.getD_some] at h2;rw[YbJ] at h2;simp only[Zac,YaO] at he;obtain ⟨x,hx,jR⟩:=he;obtain ⟨q,hq,qR⟩:=YaR hx;have:=h2 q (by simpa using hq);simp only[YaZ,YaS] at this;have qQ:o.after[q]'(by simpa using hq)=x:=by simpa using qR
   rw[qQ] at this;have eW:Region.binds .any x=true/\x.on=e:=by
    unfold Region.binds;cases hg:x.ground<;>rw[hg] at jR<;>simp_all
   rcases this with h1 | h1
   ·rw[eW.1] at h1;cases h1
   ·rw[eW.2] at h1;exact h1
 ·rintro ⟨hk,h1,h2⟩;have gC:ops[k]?=some ops[k]:=YaD hk;refine ⟨hk,?_,?_⟩
  ·rw[Yao] at h1 ⊢;rw[YaD (by omega)] at h1 ⊢;exact h1
  ·rw[gC];simp only[Option.map_some,Option.getD_some];rw[YbJ];intro q hq;simp only[YaZ,YaS];by_cases hb:Region.binds .any ops[k].after[q]=true
   ·right;refine h2 _ gC _ ?_;simp only[Zac,YaO];refine ⟨ops[k].after[q],by simp,?_⟩;unfold Region.binds at hb;cases hg:(ops[k].after[q]).ground<;>rw[hg] at hb<;>simp_all
   ·left;simpa using hb
inductive OT where
 | done
 | run (k:Nat) (t:OT)
 | two (s t:OT)
 | lead (k:Nat) (t:OT)
def ZrZ:List Oper->Nat->Option Oper
 | [],_=>none
 | o :: _,0=>some o
 | _ :: l,k+1=>ZrZ l k
theorem ZjI:∀(l:List Oper) (k:Nat),ZrZ l k=l[k]?
 | [],_=>by simp[ZrZ]
 | _ :: _,0=>by simp[ZrZ]
 | _ :: l,k+1=>by simp[ZrZ,ZjI l k]
def OT.heads:OT->List Nat
 | .done=>[]
 | .run k _=>[k]
 | .two s t=>s.heads++t.heads
 | .lead _ _=>[]
def ZtT:Op->Bool
 | .move _ | .assign _ | .fieldAddr _ _ _ | .nilCheck _=>true
 | _=>false
def ZlS:List Oper->Bool
 | []=>true
 | o :: l=>(match o.op with | .select _ _=>false | _=>true) && ZlS l
def ZsF (done:List Nat):List Nat->Bool
 | []=>true
 | e :: l=>inL done e && ZsF done l
theorem ZfQ {done:List Nat}:∀{l:List Nat},ZsF done l=true↔∀e∈l,inL done e=true
 | []=>by simp[ZsF]
 | e :: l=>by simp[ZsF,ZfQ (l:=l)]
def ZBp (hs done:List Nat):Nat->List Oper->Bool
 | _,[]=>true
 | i,o :: l=>(inL done i || inL hs i || !ZsF done (Zac o)) && ZBp hs done (i+1) l
def ZxF (L:List Oper) (done:List Nat) (k:Nat):Bool :=
 !inL done k && match ZrZ L k with
 | none=>false
 | some o=>ZsF done (Zac o)
def ZwX (L:List Oper) (x:Oper) (k:Nat) (done:List Nat):Nat->List Oper->Bool
 | _,[]=>true
 | j,y :: l=>(Nat.beq j k || inL done j || inL (Zac y) k || x.apart ⟨L⟩ y) && ZwX L x k done (j+1) l
def ZAX (L:List Oper) (done:List Nat) (k:Nat):Bool :=
 match ZrZ L k with
 | none=>false
 | some o=>ZtT o.op && (match o.guard with | none=>true | some _=>false) && ZwX L o k done 0 L
def ZAb (L:List Oper) (done:List Nat):OT->Bool
 | .lead _ _=>true
 | t=>ZBp t.heads done 0 L
def Zpd (L:List Oper):List Nat->OT->Bool
 | _,.done=>true
 | done,.run k t=>ZxF L done k && ZAb L (k :: done) t && Zpd L (k :: done) t
 | done,.two s t=>Zpd L done s && Zpd L done t
 | done,.lead k t=>ZxF L done k && ZAX L done k && ZAb L (k :: done) t && Zpd L (k :: done) t
def ZrW (L:List Oper) (t:OT):Bool:=ZAb L [] t && Zpd L [] t
def Zfg:OT->Bool
 | .done=>true
 | .run _ t=>Zfg t
 | .two s t=>Zfg s && Zfg t
 | .lead _ _=>false
def ZsT (P:Program) (T:Tab) (F:FuncId->Bool) (G:Gl) (all:Array Oper) (K:St->Prop) (Q:Post) (L:List Oper) (t:OT):St->Prop :=
 OT.rec (motive:=λ_=>St->Prop) K (λk _ next st=>match ZrZ L k with | some o=>Zjg P T F G all o st next Q | none=>False) (λ_ _ s t st=>s st/\t st) (λk _ next st=>match ZrZ L k with | some o=>Zjg P T F G all o st next Q | none=>False) t
theorem Zu3 {hs done:List Nat}:∀{l:List Oper} {i:Nat},ZBp hs done i l=true->∀(k:Nat) (o:Oper),l[k]?=some o->inL done (i+k)=false->(∀e∈Zac o,inL done e=true)->(i+k)∈hs
 | [],_,_,k,o,h,_,_=>by simp at h
 | x :: l,i,hc,k,o,hk,hn,he=>by
  simp only[ZBp,Yag] at hc;cases k with
  | zero =>simp at hk;subst hk;have h1:=hc.1;rw[ZfQ.2 he] at h1;rw[Nat.add_zero] at hn;rw[hn] at h1;simpa using ZbO.1 (by simpa using h1)
  | succ k =>have:=Zu3 hc.2 k o (by simpa using hk) (by rw[show i+1+k=i+(k+1) from by omega];exact hn) he;rwa [show i+1+k=i+(k+1) from by omega] at this
theorem Zls {all:Array Oper} {K:St->Prop} {Q:Post} {L:List Oper} {done:List Nat} (bK:∀k,ZxF L done k=false):∀(t:OT) (st:St),Zpd L done t=true->ZsT P T F C.G all K Q L t st->K st
 | .done,_,_,h=>h
 | .run k t,st,hi,_=>by
  simp only[Zpd,Yag] at hi;rw[bK k] at hi;cases hi.1.1
 | .two s t,st,hi,h=>by simp only[Zpd,Yag] at hi;exact Zls bK s st hi.1 h.1
 | .lead k t,st,hi,_=>by
  simp only[Zpd,Yag] at hi;rw[bK k] at hi;cases hi.1.1.1
theorem Zjh {all:Array Oper} {K:St->Prop} {Q:Post} {L:List Oper} {done:List Nat} {k:Nat}:∀(t:OT) (st:St),Zpd L done t=true->ZsT P T F C.G all K Q L t st->k∈t.heads ->
  ∃o t',L[k]?=some o/\ZAb L (k :: done) t'=true/\(Zfg t=true->Zfg t'=true)/\Zpd L (k :: done) t'=true/\Zjg P T F C.G all o st (ZsT P T F C.G all K Q L t') Q
 | .done,_,_,_,hk=>by simp[OT.heads] at hk
 | .run j t,st,hi,h,hk=>by
  simp only[OT.heads,Yaz] at hk;subst hk;simp only[Zpd,Yag] at hi;have h':(match ZrZ L k with | some o=>Zjg P T F C.G all o st (ZsT P T F C.G all K Q L t) Q | none=>False):=h;cases ho:ZrZ L k with
  | none=>rw[ho] at h';exact h'.elim
  | some o=>rw[ho] at h';exact ⟨o,t,by rw[<- ZjI];exact ho,hi.1.2,id,hi.2,h'⟩
 | .two s t,st,hi,h,hk=>by
  simp only[OT.heads,Yar] at hk;simp only[Zpd,Yag] at hi;rcases hk with hk | hk
  ·obtain ⟨o,t',a1,a2,a3,a4⟩:=Zjh s st hi.1 h.1 hk;exact ⟨o,t',a1,a2,λhn=>a3 (by simp only[Zfg,Yag] at hn;exact hn.1),a4⟩
  ·obtain ⟨o,t',a1,a2,a3,a4⟩:=Zjh t st hi.2 h.2 hk;exact ⟨o,t',a1,a2,λhn=>a3 (by simp only[Zfg,Yag] at hn;exact hn.2),a4⟩
 | .lead _ _,_,_,_,hk=>by simp[OT.heads] at hk
theorem ZzJ {L:List Oper} {done:List Nat} {t:OT} (hc:ZAb L done t=true):(∃k t',t=.lead k t')\/ZBp t.heads done 0 L=true:=by
 cases t with
 | lead k t'=>exact .inl ⟨k,t',rfl⟩
 | _=>exact .inr hc
theorem Zqn:∀{L:List Oper},ZlS L=true->∀(j:Nat) (o:Oper) cs b,L[j]?=some o->o.op≠.select cs b
 | [],_,j,o,_,_,h=>by simp at h
 | x :: L,hn,j,o,cs,b,h=>by
  simp only[ZlS,Yag] at hn;cases j with
  | zero =>
   simp at h;subst h;intro e;have h1:=hn.1;rw[e] at h1;cases h1
  | succ j=>exact Zqn hn.2 j o cs b (by simpa using h)
theorem ZqQ {L:List Oper} {x:Oper} {k:Nat} {done:List Nat}:∀{l:List Oper} {i:Nat},ZwX L x k done i l=true->∀(j:Nat) (y:Oper),l[j]?=some y->i+j≠k->inL done (i+j)=false->k ∉ Zac y->x.apart ⟨L⟩ y=true
 | [],_,_,j,y,h,_,_,_=>by simp at h
 | z :: l,i,hf,j,y,hj,aC,hd,he=>by
  simp only[ZwX,Yag] at hf;cases j with
  | zero =>
   simp at hj;subst hj;have h1:=hf.1;rw[Nat.add_zero] at aC hd;have e1:Nat.beq i k=false:=Zc5 aC;have e2:inL (Zac z) k=false:=by
    cases hx:inL (Zac z) k with
    | false=>rfl
    | true=>exact absurd (ZbO.1 hx) he
   rw[e1,hd,e2] at h1;simpa using h1
  | succ j =>exact ZqQ hf.2 j y (by simpa using hj) (by omega) (by rw[show i+1+j=i+(j+1) from by omega];exact hd) he
theorem Zy3 (hT:TabOk P T) {o:Oper} {st:St} {a:Act} {w:World} {β:Nat->Value} {V:Nat->Prop} {K Qp:KD} (hr:RelD C st.h β V w) (he:ZbS st β V w a) (hk:ZtT o.op=true) (h:ZaN P T F C.G o.op st K Qp) :
  ∃v d,K d st.h/\Zab st.h β V w d v/\∀w2,(execOp a.eval o).run P w2=.ok (.value v) w2:=by
 cases ho:o.op with
 | move x=>rw[ho] at h;exact ⟨_,_,h,he.eval hr.gl x,λw2=>by simp[execOp,ho]⟩
 | assign x=>rw[ho] at h;exact ⟨_,_,h,he.eval hr.gl x,λw2=>by simp[execOp,ho]⟩
 | nilCheck x =>
  rw[ho] at h;have hx:=he.eval hr.gl x;have fin:∀(d:D) (v:Value),K d st.h->a.eval x=v->Zab st.h β V w d v->(∃ad,v=.pointer (some ad))\/(∃f us ts,v=.func (.func f) us ts)->∃v d,K d st.h/\Zab st.h β V w d v/\∀w2,(execOp a.eval o).run P w2=.ok (.value v) w2:=by
   rintro d v k1 k2 k3 (⟨ad,rfl⟩ | ⟨f,us,ts,rfl⟩)
   ·exact ⟨_,d,k1,k3,λw2=>by simp[execOp,ho,k2]⟩
   ·exact ⟨_,d,k1,k3,λw2=>by simp[execOp,ho,k2]⟩
  simp only[ZaN] at h;split at h
  ·rename_i i off e;split at h
   ·rename_i cs ty hi;rw[e] at hx;have de:=hx;simp only[Zab,hi] at hx;obtain ⟨g,_,hv⟩:=hx;exact fin _ _ h rfl de (.inl ⟨_,hv⟩)
   ·exact h.elim
  ·rename_i i j off e;split at h
   ·rename_i xs ty sz hi;rw[e] at hx;have de:=hx;simp only[Zab,hi] at hx;obtain ⟨_,g,n,c,_,hv⟩:=hx;exact fin _ _ h rfl de (.inl ⟨_,hv⟩)
   ·exact h.elim
  ·rename_i r off e;rw[e] at hx;have de:=hx;simp only[Zab] at hx;obtain ⟨ad,hv,_⟩:=hx;exact fin _ _ h rfl de (.inl ⟨_,hv⟩)
  ·rename_i f fs cs e;rw[e] at hx;have de:=hx;simp only[Zab] at hx;obtain ⟨us,ts,hv,_⟩:=hx;exact fin _ _ h rfl de (.inr ⟨_,_,_,hv⟩)
  ·exact h.elim
 | fieldAddr s x f =>
  rw[ho] at h;have bp:execOp a.eval o=(do pure (.value (<- Instr.fieldAt s (a.eval x) f))):=by simp[execOp,ho]
  have hx:=he.eval hr.gl x;simp only[ZaN] at h;split at h
  ·rename_i hs;split at h
   ·rename_i off sz hf;split at h
    ·rename_i i o' e;rw[e] at hx;split at h
     ·rename_i cs ty hi;simp only[Zab,hi] at hx;obtain ⟨g,hb,hv⟩:=hx;refine ⟨.pointer (some ⟨g,o'+off,none⟩),_,h,by simp only[Zab,hi];exact ⟨g,hb,rfl⟩,λw2=>?_⟩;rw[bp,hv];simp[Zc9 hT hs rfl hf,Zb8]
     ·exact h.elim
    ·rename_i i j o' e;rw[e] at hx;split at h
     ·rename_i xs ty aW hi;simp only[Zab,hi] at hx;obtain ⟨hj,g,n,c,hb,hv⟩:=hx;refine ⟨.pointer (some ⟨g,j*aW+o'+off,none⟩),_,h,by simp only[Zab,hi];exact ⟨hj,g,n,c,hb,by rw[Ycb]⟩,λw2=>?_⟩;rw[bp,hv];simp[Zc9 hT hs rfl hf,Zb8]
     ·exact h.elim
    ·rename_i r o' e;rw[e] at hx;simp only[Zab] at hx;obtain ⟨ad,hv,hV,aF⟩:=hx;refine ⟨.pointer (some ((ad.add o').add off)),_,h,by simp only[Zab];exact ⟨ad,by rw[ZgP],hV,aF⟩,λw2=>?_⟩;rw[bp,hv];simp[Zc9 hT hs rfl hf]
    ·exact h.elim
   ·exact h.elim
  ·exact h.elim
 | _=>rw[ho] at hk;cases hk
theorem Zwi (hT:TabOk P T) {all:Array Oper} {o:Oper} {st:St} {a:Act} {w:World} {K:St->Prop} {Q:Post} (hr:Rel C n st a w) (hd:∀d,o.dst=some d->d < n) (hk:ZtT o.op=true) (hg:o.guard=none) (h:Zjg P T F C.G all o st K Q) :
  ∃v st',K st'/\Rel C n st' (a.put o.dst v) w/\Yields P all o v a:=by
 obtain ⟨ah,bf,β,V,ab,he⟩:=hr;obtain ⟨dst,op,ty,pos,qj,guard⟩:=o;simp only at hg hk hd;subst hg;have h1:ZhG P T F C.G op dst st K Q:=h;have aS:Zwk C.G op st=λX=>X st:=by
  funext X;cases op<;>first | rfl | cases hk
 unfold ZhG at h1;rw[aS] at h1;obtain ⟨env,hp,df⟩:=st;dsimp only at h1;obtain ⟨v,d,k1,k2,k3⟩:=Zy3 (o:=⟨dst,op,ty,pos,qj,none⟩) hT ab he hk h1;have hh:ZqG op d=false:=by cases op<;>first | rfl | cases hk
 rw[hh] at k1;have hy:Yields P all ⟨dst,op,ty,pos,qj,none⟩ v a:=.inl ⟨by simp[Region.wanted],k3⟩;cases dst with
 | none =>
  have k4:K ⟨env,hp,df⟩:=by simpa only[Yb9,orS,cond_false,ZfJ,Zdm] using k1
  exact ⟨v,_,k4,⟨ah,bf,β,V,ab,he⟩,hy⟩
 | some i =>
  have k4:K ⟨env.set i d,hp,df⟩:=by simpa only[Yb9,orS,cond_false,ZfJ,Zdm] using k1
  exact ⟨v,_,k4,⟨by simpa [Act.put] using ah,bf,β,V,ab,Zmr he ah (LeH.refl _ _) (ZaI.refl _ _) (hd i rfl) k2 df⟩,hy⟩
theorem Zwn (hT:TabOk P T) (hF:∀g,F g=true->fnOk P g=true) {L:List Oper} {S:List Nat} {Q:Post} {K:St->Prop} {a0:Act} {Qa:Exit->Act->World->Prop}
  (hd:∀o∈L,∀d,o.dst=some d->d < n/\inL S d=true)
  (hK:∀st a w,K st->Rel C n st a w->ZaL S a0 a->Qa .normal a w) (hQ:∀d st ch a w,Q (.pan d) st->XOk (.panic ch) (.pan d) st a w C n->ZaL S a0 a->Qa (.panic ch) a w)
  (ld:Bool) (ru:ld=true->ZlS L=true/\∀o∈L,∀(v:Value) ch a w,Qa (.panic ch) (a.put o.dst v) w->Qa (.panic ch) a w) :
  ∀(fuel:Nat) (listed:Array Bool) (done:List Nat) (t:OT) (st:St) (a:Act) (w:World),listed.size=L.length->(∀k,k < L.length->listed.getD k false=inL done k)->(∀k,inL done k=true->k < L.length)->(List.range L.length).countP (λi=>!listed.getD i false)<=fuel ->
   (ld || Zfg t)=true->ZAb L done t=true->Zpd L done t=true->ZsT P T F C.G ⟨L⟩ K Q L t st->Rel C n st a w->ZaL S a0 a->wpAny P .any ⟨L⟩ Qa fuel listed a w:=by
 intro fuel;have mG:∀(listed:Array Bool) (done:List Nat),listed.size=L.length->(∀k,k < L.length->listed.getD k false=inL done k)->(∀k,inL done k=true->k < L.length)->∀k,k∈Region.ready .any ⟨L⟩ listed↔ZxF L done k=true:=by
  intro listed done ah jF aG k;have ag:∀k,listed.getD k false=inL done k:=λk=>by
   by_cases hk:k < L.length
   ·exact jF k hk
   ·rw[Yao,Array.getElem?_eq_none (by omega)];cases hx:inL done k with
    | false=>rfl
    | true=>exact absurd (aG k hx) hk
  rw[Za9 (by exact ah)];have e1:(⟨L⟩:Array Oper)[k]?=L[k]?:=by simp
  unfold ZxF;rw[e1,ZjI,ag];constructor
  ·rintro ⟨h1,h2,h3⟩;have ho:L[k]?=some L[k]:=Yak h1;rw[h2,ho];simp only[Ycu,Ycc];exact ZfQ.2 (λe he=>by rw[<- ag];exact h3 _ ho e he)
  ·intro h;simp only[Yag,YaS] at h;cases ho:L[k]? with
   | none=>rw[ho] at h;cases h.2
   | some o =>rw[ho] at h;refine ⟨(Yac.1 ho).1,h.1,λo' aP e he=>?_⟩;injection aP with aP;subst aP;rw[ag];exact ZfQ.1 h.2 e he
 induction fuel with
 | zero =>
  intro listed done t st a w ah jF aG hc _ kg hin hv hr hk;have bK:Region.ready .any ⟨L⟩ listed=[]:=by rw[Ya8];intro k j6;have h0:=(Za9 (ops:=⟨L⟩) (by exact ah)).1 j6;have:0 < (List.range L.length).countP (λi=>!listed.getD i false):=List.countP_pos_iff.2 ⟨k,Ya1.2 h0.1,by rw[h0.2.1];rfl⟩;omega
  refine ⟨bK,hK st a w (Zls (λk=>?_) t st hin hv) hr hk⟩;cases hx:ZxF L done k with
  | false=>rfl
  | true =>have:=(mG listed done ah jF aG k).2 hx;rw[bK] at this;simp at this
 | succ fuel ih =>
  intro listed done t st a w ah jF aG hc iX kg hin hv hr hk;have upd:∀k,k < L.length->listed.getD k false=false->(listed.setIfInBounds k true).size=L.length/\(∀j,j < L.length->(listed.setIfInBounds k true).getD j false=inL (k :: done) j)/\(∀j,inL (k :: done) j=true->j < L.length)/\(List.range L.length).countP (λi=>!(listed.setIfInBounds k true).getD i false)<=fuel:=λk aB h0=>by
   refine ⟨by simpa using ah,λj hj=>?_,λj hj=>?_,?_⟩
   ·rw[ZbM (by omega)];show _=bif Nat.beq k j then true else inL done j;by_cases e:j=k
    ·subst e;rw[if_pos rfl,YaY];rfl
    ·rw[if_neg e,jF j hj,Zc5 (λh=>e h.symm)];rfl
   ·have:(bif Nat.beq k j then true else inL done j)=true:=hj;by_cases e:k=j
    ·omega
    ·rw[Zc5 e] at this;exact aG j this
   ·have:=Zgd (p:=λi=>!listed.getD i false) (q:=λi=>!(listed.setIfInBounds k true).getD i false) (i:=k) (List.range L.length) Yck (Ya1.2 aB) (by simp only[h0];rfl) (by rw[ZbM (by omega),if_pos rfl];rfl) (λj hj=>by rw[ZbM (by omega),if_neg hj]);omega
  rcases ZzJ kg with ⟨k,t',rfl⟩ | kg
  ·
   have og:ld=true:=by simpa [Zfg] using iX
   obtain ⟨qZ,gV⟩:=ru og;simp only[Zpd,Yag] at hin;obtain ⟨⟨⟨h1,h2⟩,h3⟩,h4⟩:=hin;have j6:=(mG listed done ah jF aG k).2 h1;have h0:=(Za9 (ops:=⟨L⟩) (by exact ah)).1 j6;have aB:k < L.length:=h0.1;have mH:(match ZrZ L k with | some o=>Zjg P T F C.G ⟨L⟩ o st (ZsT P T F C.G ⟨L⟩ K Q L t') Q | none=>False):=hv;unfold ZAX at h2;cases ho:ZrZ L k with
   | none=>rw[ho] at mH;exact mH.elim
   | some o =>
    rw[ho] at mH h2;simp only[Yag] at h2;obtain ⟨⟨b1,b2⟩,b3⟩:=h2;have mL:L[k]?=some o:=by rw[<- ZjI];exact ho
    have bz:o∈L:=YaL mL;have hg:o.guard=none:=by
     cases l8:o.guard with
     | none=>rfl
     | some _=>rw[l8] at b2;cases b2
    obtain ⟨v,st',k1,k2,k3⟩:=Zwi (all:=⟨L⟩) hT hr (λd bF=>(hd o bz d bF).1) b1 hg mH;obtain ⟨p1,p2,p3,p4⟩:=upd k aB h0.2.1;refine wpAny_first (md:=.any) (ops:=⟨L⟩) (i:=k) (oi:=o) (v:=v) (by simpa using mL) (λj o cs b hj=>Zqn qZ j o cs b (by simpa using hj)) (λc a w h=>gV o bz v c a w h) fuel listed a w ?_ j6 k3
     (ih _ (k :: done) t' st' _ w p1 p2 p3 p4 (by rw[og];rfl) h3 h4 k1 k2 (hk.trans (ZaL.put (λd bF=>(hd o bz d bF).2) v)))
    intro j oj hj aC gA bK;have aD:j < L.length:=by have:=(YaQ.1 hj).1;exact this
    refine ZqQ b3 j oj (by simpa using hj) (by omega) ?_ ?_
    ·rw[YaA,<- jF j aD];rw[Yao] at gA ⊢;rw[YaD (by omega)] at gA ⊢;exact gA
    ·intro hin;simp only[Zac,YaO] at hin;obtain ⟨e,he,wK⟩:=hin;have eW:Region.binds .any e=true/\e.on=k:=by
      unfold Region.binds;cases ma:e.ground<;>rw[ma] at wK<;>simp_all
     exact bK e (by simpa using he) eW.1 eW.2
  refine ⟨λbK=>hK st a w (Zls (λk=>?_) t st hin hv) hr hk,λk j6=>?_⟩
  ·cases hx:ZxF L done k with
   | false=>rfl
   | true =>have:=(mG listed done ah jF aG k).2 hx;rw[bK] at this;simp at this
  have h0:=(Za9 (ops:=⟨L⟩) (by exact ah)).1 j6;have h1:=(mG listed done ah jF aG k).1 j6;have aB:k < L.length:=h0.1;have oC:k∈t.heads:=by
   have ho:L[k]?=some L[k]:=Yak aB;have:=Zu3 kg k L[k] ho (by rw[YaA,<- jF k aB];exact h0.2.1) (λe he=>by
    unfold ZxF at h1;rw[ZjI,ho] at h1;simp only[Yag] at h1;exact ZfQ.1 h1.2 e he)
   rwa [YaA] at this
  obtain ⟨o,t',ho,c1,qh,c2,c3⟩:=Zjh t st hin hv oC;have bz:o∈L:=YaL ho;have gB:∀v,ZaL S a0 (a.put o.dst v):=λv=>hk.trans (ZaL.put (λd bF=>(hd o bz d bF).2) v);obtain ⟨p1,p2,p3,p4⟩:=upd k aB h0.2.1;have aZ:=ZjG (all:=⟨L⟩) (next:=λa2 w2=>wpAny P .any ⟨L⟩ Qa fuel (listed.setIfInBounds k true) a2 w2) (Qa:=Qa) hT hF hr (λd bF=>(hd o bz d bF).1) c3
   (λst' v w' ae aL=>ih _ (k :: done) t' st' _ w' p1 p2 p3 p4 (by rcases YaZ _ _▸iX with h | h;exact (by rw[h];rfl);rw[qh h,Bool.or_true]) c1 c2 ae aL (gB v)) (λd st' ch w' hq hx=>hQ d st' ch a w' hq hx hk)
  unfold wpOp;have e1:(⟨L⟩:Array Oper)[k]?=some o:=by simpa using ho
  rw[e1];unfold Zvm at aZ;dsimp only;by_cases hw:Region.wanted o (yielded ⟨L⟩ a.tmps)=true
  ·rw[if_pos hw] at aZ ⊢;exact .inl aZ
  ·rw[if_neg hw] at aZ ⊢;exact aZ
def Zzn:Option Nat->Bool
 | some p=>Nat.beq p 60000
 | none=>false
def Zuv:Option Nat->Bool
 | some p=>Nat.beq p 60001
 | none=>false
def Zww (Q:Post):Post:=λx st=>match x with
 | .pan _=>False
 | x=>Q x st
def ZxQ:Option Nat->Bool
 | some p=>Nat.beq p 60002
 | none=>false
def Zl0 (L:List Oper) (env:Env):Env:=λk=>bif inL (L.filterMap (·.dst)) k then .any else env k
theorem Zr4 (L:List Oper) (env:Env):Zl0 L (Zl0 L env)=Zl0 L env:=by
 funext k;unfold Zl0;cases inL (L.filterMap (·.dst)) k<;>rfl
def Znq (L:List Oper) (Q:Post):Post:=λx st=>match x with
 | .pan d=>Q (.pan d) ⟨Zl0 L st.env,st.h,st.df⟩
 | x=>Q x st
theorem ZwA {L:List Oper} {h:Zae} {df:List Deferred} {env:Env} {β:Nat->Value} {V:Nat->Prop} {w:World} {a:Act} (he:ZbS ⟨env,h,df⟩ β V w a):ZbS ⟨Zl0 L env,h,df⟩ β V w a:=λk=>by
 show Zab h β V w (bif inL (L.filterMap (·.dst)) k then .any else env k) _;cases inL (L.filterMap (·.dst)) k with
 | true=>simp only[cond_true,Zab]
 | false=>exact he k
theorem ZrV {L:List Oper} {S:List Nat} {Q:Post} {n:Nat} {C:Ctx} {a0:Act} (hd:∀o∈L,∀d,o.dst=some d->d < n/\inL S d=true) {o:Oper} (ho:o∈L) {v:Value} {ch:List PanicEntry} {a:Act} {w:World}
  (h:ZaL S a0 (a.put o.dst v)/\∃x st',Znq L Q x st'/\XOk (.panic ch) x st' (a.put o.dst v) w C n):ZaL S a0 a/\∃x st',Znq L Q x st'/\XOk (.panic ch) x st' a w C n:=by
 obtain ⟨hk,x,⟨env,h,df⟩,hq,hx⟩:=h;cases x<;>try exact hx.elim
 rename_i d;obtain ⟨t,u,h1,h2,h3,β,V,h4,h5,h6⟩:=hx;have hp:∀k,inL S k=false->(a.put o.dst v).tmps.getD k undef=a.tmps.getD k undef:=ZaL.put (λd bF=>(hd o ho d bF).2) v;refine ⟨λk ae=>(hp k ae).symm.trans (hk k ae),.pan d,⟨Zl0 L env,h,df⟩,?_,t,u,h1,?_,?_,β,V,h4,λk=>?_,h6⟩
 ·show Q (.pan d) ⟨Zl0 L (Zl0 L env),h,df⟩;rw[Zr4];exact hq
 ·cases aQ:o.dst with
  | none=>rw[aQ] at h2;exact h2
  | some i=>rw[aQ] at h2;simpa [Act.put] using h2
 ·cases aQ:o.dst with
  | none=>rw[aQ] at h3;exact h3
  | some i=>rw[aQ] at h3;exact h3
 ·show Zab h β V w (bif inL (L.filterMap (·.dst)) k then .any else env k) _;cases hm:inL (L.filterMap (·.dst)) k with
  | true=>simp only[cond_true,Zab]
  | false =>
   have he:=h5 k;cases aQ:o.dst with
   | none=>rw[aQ] at he;exact he
   | some i =>
    rw[aQ] at he;have aC:i≠k:=λe=>by
     subst e;have:inL (L.filterMap (·.dst)) i=true:=ZbO.2 (YaO.2 ⟨o,ho,aQ⟩);rw[this] at hm;cases hm
    have:(a.tmps.setIfInBounds i v).getD k undef=a.tmps.getD k undef:=by rw[Yao,Ybv aC,Yao]
    have he:Zab h β V w (env k) ((a.tmps.setIfInBounds i v).getD k undef):=he;rw[this] at he;exact he
def Zxt (P:Program) (T:Tab) (F:FuncId->Bool) (G:Gl) (ops:Array Oper) (Q:Post) (pp:Option Nat) (env:Env) (h:Zae) (df:List Deferred):Prop :=
 bif Zzn pp then ∃t:OT,(ZrW ops.toList t && Zfg t)=true/\ZsT P T F G ops (Q .normal) Q ops.toList t ⟨env,h,df⟩ else @ZsV (CA.mk (caB pp) (caF pp) (caM pp) (caS pp)) P T F G ops Q pp env h df
def ZBz (P:Program) (T:Tab) (F:FuncId->Bool) (G:Gl) (ops:Array Oper) (Q:Post) (pp:Option Nat) (env:Env) (h:Zae) (df:List Deferred):Prop :=
 bif ZxQ pp then ∃t:OT,(ZrW ops.toList t && ZlS ops.toList)=true/\ZsT P T F G ops (Q .normal) (Znq ops.toList Q) ops.toList t ⟨env,h,df⟩ else
 bif Zuv pp then ∃t:OT,(ZrW ops.toList t && ZlS ops.toList)=true/\ZsT P T F G ops (Q .normal) (Zww Q) ops.toList t ⟨env,h,df⟩ else Zxt P T F G ops Q pp env h df
theorem Zqg (hT:TabOk P T) (hF:∀g,F g=true->fnOk P g=true) {id:Nat} {ops:Array Oper} (S:List Nat) (hs:∀k∈ZbK (.region id ops true),k < n) (hm:∀k∈ZbK (.region id ops true),inL S k=true)
  {st:St} {Q Q':Post} {t:OT} (hc:ZrW ops.toList t=true) (hn:Q'=Q/\Zfg t=true\/(Q'=Zww Q\/Q'=Znq ops.toList Q)/\ZlS ops.toList=true) (h:ZsT P T F C.G ops (Q .normal) Q' ops.toList t st) {a:Act} {w:World} (hr:Rel C n st a w) :
  wpAny P .any ops (λe a' w'=>ZaL S a a'/\∃x st',Q' x st'/\XOk e x st' a' w' C n) ops.size (Array.replicate ops.size false) a { w with drawn:=w.drawn+1 }:=by
 simp only[ZrW,Yag] at hc;have dQ:Rel C n st a { w with drawn:=w.drawn+1 }:=by obtain ⟨h1,h2,β,V,h3,h4⟩:=hr;exact ⟨h1,h2,β,V,h3.drew _,λs=>Zab.mono (w:=w) (w':={ w with drawn:=w.drawn+1 }) (V:=V) (LeH.refl st.h β) (λk hk=>⟨hk,rfl⟩) _ _ (h4 s)⟩
 have vU:Q' .normal=Q .normal:=by rcases hn with ⟨rfl,_⟩ | ⟨rfl | rfl,_⟩<;>rfl
 have key:∀ld:Bool,(ld=true->ZlS ops.toList=true/\(Q'=Zww Q\/Q'=Znq ops.toList Q))->(ld || Zfg t)=true->wpAny P .any ops (λe a' w'=>ZaL S a a'/\∃x st',Q' x st'/\XOk e x st' a' w' C n) ops.size (Array.replicate ops.size false) a { w with drawn:=w.drawn+1 }:=λld h1 h2 =>
  have jg:∀o∈ops.toList,∀d,o.dst=some d->d < n/\inL S d=true:=λo ho d hd=>by
   have:d∈ZbK (.region id ops true):=by simp only[ZbK,YaO];exact ⟨o,ho,hd⟩
   exact ⟨hs d this,hm d this⟩
  Zwn (L:=ops.toList) (K:=Q .normal) (Q:=Q') (a0:=a) (S:=S) hT hF jg
  (λst a w hq hr hk=>⟨hk,.normal,st,by rw[vU];exact hq,hr⟩) (λd st ch a w hq hx hk=>⟨hk,.pan d,st,hq,hx⟩) ld (λhl=>⟨(h1 hl).1,by
   intro o ho v ch a' w' qP;rcases (h1 hl).2 with e | e
   ·obtain ⟨_,x,st',hq,hx⟩:=qP;rw[e] at hq;cases x<;>first | exact hq.elim | exact hx.elim
   ·rw[e] at qP ⊢;exact ZrV jg ho qP⟩) ops.size (Array.replicate ops.size false) [] t st a _ (by simp) (λk hk=>by
   rw[Yao,Ya0];split<;>rfl) (λk hk=>by cases hk) (YaC YbD (by simp)) h2 hc.1 hc.2 h dQ (ZaL.refl _ _)
 rcases hn with ⟨_,hn⟩ | ⟨h1,h2⟩
 ·exact key false (λh=>by cases h) (by rw[hn];rfl)
 ·exact key true (λ_=>⟨h2,h1⟩) rfl
theorem Zlb (hT:TabOk P T) (hF:∀g,F g=true->fnOk P g=true) (hM:P.follows .mixedOrders=true) {id:Nat} {ops:Array Oper} (S:List Nat) (hs:∀k∈ZbK (.region id ops true),k < n) (hm:∀k∈ZbK (.region id ops true),inL S k=true)
  {env:Env} {hh:Zae} {df:List Deferred} {Q:Post} (h:∃pp:Option Nat,ZBz P T F C.G ops Q pp env hh df) {a:Act} {w:World} (hr:Rel C n ⟨env,hh,df⟩ a w) :
  (Code.region id ops true).wp P (λe a' w'=>ZaL S a a'/\∃x st',Q x st'/\XOk e x st' a' w' C n) a w:=by
 obtain ⟨pp,h⟩:=h;unfold ZBz at h;cases hp:ZxQ pp with
 | true =>
  rw[hp] at h;obtain ⟨t,hc,h⟩:=h;simp only[Yag] at hc;refine Code.wp_mono ?_ (wp_region_any (id:=id) hM (Zqg hT hF (id:=id) S hs hm hc.1 (.inr ⟨.inr rfl,hc.2⟩) h hr));rintro e a' w' ⟨hk,x,st',hq,hx⟩;cases x with
  | pan d =>
   cases e<;>try exact hx.elim
   obtain ⟨t,u,h1,h2,h3,β,V,h4,h5,h6⟩:=hx;exact ⟨hk,.pan d,_,hq,t,u,h1,h2,h3,β,V,h4,ZwA h5,h6⟩
  | _=>exact ⟨hk,_,st',hq,hx⟩
 | false =>
 rw[hp] at h
 replace h:(bif Zuv pp then ∃t:OT,(ZrW ops.toList t && ZlS ops.toList)=true/\ZsT P T F C.G ops (Q .normal) (Zww Q) ops.toList t ⟨env,hh,df⟩ else Zxt P T F C.G ops Q pp env hh df):=h
 cases hl:Zuv pp with
 | true =>rw[hl] at h;obtain ⟨t,hc,h⟩:=h;simp only[Yag] at hc;refine Code.wp_mono ?_ (wp_region_any (id:=id) hM (Zqg hT hF (id:=id) S hs hm hc.1 (.inr ⟨.inl rfl,hc.2⟩) h hr));rintro e a' w' ⟨hk,x,st',hq,hx⟩;exact ⟨hk,x,st',by cases x<;>first | exact hq | exact hq.elim,hx⟩
 | false =>
 rw[hl] at h
 replace h:Zxt P T F C.G ops Q pp env hh df:=h
 unfold Zxt at h;cases ha:Zzn pp with
 | true =>rw[ha] at h;obtain ⟨t,hc,h⟩:=h;simp only[Yag] at hc;exact wp_region_any hM (Zqg hT hF (id:=id) S hs hm hc.1 (.inl ⟨rfl,hc.2⟩) h hr)
 | false =>rw[ha] at h;exact @ZpB P T F C n (CA.mk (caB pp) (caF pp) (caM pp) (caS pp)) hT hF hM id ops S hs hm env hh df Q pp h a w hr
end
end Go.Dm
