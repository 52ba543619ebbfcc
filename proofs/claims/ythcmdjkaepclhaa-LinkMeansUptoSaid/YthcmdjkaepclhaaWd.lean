import Derived.Test.YthcmdjkaepclhaaDdec
import Derived.Test.YthcmdjkaepclhaaBits
import Derived.Test.YthcmdjkaepclhaaDlib
namespace Go.Proofs.Ythcmdjkaepclhaa
open Go Go.Dm Go.Eng Barb
theorem Is_any (x:Int):CT Try.prog [] 83 [.g (.int x)] (Is (.pb (0<=x/\x<=65535))):=by
 refine enter hT hF hM Try.func83 rfl 9 rfl (by kernel_rfl) [.tmp 2] rfl [.g (.int x)] rfl _ ?_
 exact ⟨fun h1=>⟨rfl,retP (by omega)⟩,fun h1=>⟨rfl,retF (by omega)⟩⟩
theorem In_any (x lo hi:Int):CT Try.prog [] 7 [.g (.int x),.g (.int lo),.g (.int hi)] (Is (.pb (lo<=x/\x<=hi))):=by
 refine enter hT hF hM Try.func7 rfl 15 rfl (by kernel_rfl) [.tmp 6] rfl [.g (.int x),.g (.int lo),.g (.int hi)] rfl _ ?_
 exact ⟨fun h1=>⟨rfl,retP ⟨fun h=>⟨h1,h⟩,fun h=>h.2⟩⟩,fun h1=>⟨rfl,retF (fun h=>h1 h.1)⟩⟩
theorem IsWord_any (x:Int):CT Try.prog [] 44 [.g (.int x)] (Is (.pb (0<=x/\x<=65535))):=by
 refine enter hT hF hM Try.func44 rfl 5 rfl (by kernel_rfl) [.tmp 2] rfl [.g (.int x)] rfl _ ?_
 exact callIs (.inl rfl) (In_any x 0 65535) ⟨rfl,retP Iff.rfl⟩
theorem truth_any (p:Prop) [Decidable p]:CT Try.prog [] 95 [.pb p] (Is (.g (.int (if p then 1 else 0)))):=by
 refine enter hT hF hM Try.func95 rfl 4 rfl (by kernel_rfl) [.tmp 2] rfl [.pb p] rfl _ ?_
 exact ⟨fun h=>⟨rfl,retI (by rw[if_pos h])⟩,fun h=>⟨rfl,retI (by rw[if_neg h])⟩⟩
theorem bit_any (m i:Nat) (hm:m<=65535) (hi:i<=65535):CT Try.prog [] 67 [.g (.int (m:Int)),.g (.int (i:Int))] (Is (.g (.int ((half m i % 2:Nat):Int)))):=by
 refine enter hT hF hM Try.func67 rfl 13 rfl (by kernel_rfl) [.tmp 4] rfl [.g (.int (m:Int)),.g (.int (i:Int))] rfl _ ?_
 refine loopR (ι:=Nat) (fun k=>[(0,.g (.int ((half m k:Nat):Int))),(1,.g (.int ((i:Int) - (k:Int))))]) (fun _=>[]) (fun k=>k<=i) (fun k=>i - k)
  ⟨0,[],⟨rfl,.inl rfl,.inr ⟨lkI (by simp[half]),lkI (by simp),trivial⟩,rfl⟩,Nat.zero_le _⟩ ?_
 intro Rd hRd k hk
 have hd:half m k<=65535:=Nat.le_trans (Nat.div_le_self _ _) hm
 have e1:(((half m k:Nat):Int)).tdiv 2=((half m (k+1):Nat):Int):=by
  rw[Int.tdiv_eq_ediv_of_nonneg (by omega),half,half,Nat.pow_succ,<- Nat.div_div_eq_div_mul];rfl
 have hd':half m (k+1)<=65535:=Nat.le_trans (Nat.div_le_self _ _) hm
 refine ⟨fun h1=>?_,fun h1=>?_⟩
 ·refine ⟨by decide,by rw[e1];unfold I64;omega,?_⟩
  refine ⟨by unfold I64;omega,?_⟩
  exact hRd _ _ _ ⟨k+1,[],⟨rfl,.inl rfl,.inr ⟨lkI e1,lkI (by omega),trivial⟩,rfl⟩,by omega,by omega⟩
 ·have h2:k=i:=by omega
  subst h2
  refine ⟨by decide,rfl,retI ?_⟩
  rw[Int.tmod_eq_emod_of_nonneg (by omega)];rfl
def doI (op a b:Int):Int:=if op < 1\/10 < op then 0 else if (0<=a/\a<=65535)/\(0<=b/\b<=65535) then (did op.toNat a.toNat b.toNat:Nat) else 0
def doE (op a b:Int):Int:=if op < 1\/10 < op then 3 else if (0<=a/\a<=65535)/\(0<=b/\b<=65535) then 0 else 2
theorem do_ok {op a b:Int} (h:¬(op < 1\/10 < op)) {m n:Nat} (ha:a=(m:Int)) (hb:b=(n:Int)) (hm:m<=65535) (hn:n<=65535) {k:Nat} (ho:op=(k:Int)):doI op a b=(did k m n:Nat)/\doE op a b=0:=by
 subst ha;subst hb;subst ho
 unfold doI doE
 rw[if_neg h,if_neg h,if_pos (by omega),if_pos (by omega)]
 simp
theorem Do_any (op a b:Int):CT Try.prog [] 78 [.g (.int op),.g (.int a),.g (.int b)] (Is (.tuple [.g (.int (doI op a b)),.g (.int (doE op a b))])):=by
 refine enter hT hF hM Try.func78 rfl 77 rfl (by kernel_rfl) [.tmp 6,.tmp 7] rfl [.g (.int op),.g (.int a),.g (.int b)] rfl _ ?_
 refine ⟨fun h1=>?_,fun h1=>⟨fun h2=>?_,fun h2=>?_⟩⟩
 ·exact ⟨rfl,ret2I (by unfold doI;rw[if_pos (.inl h1)]) (by unfold doE;rw[if_pos (.inl h1)])⟩
 ·exact ⟨rfl,ret2I (by unfold doI;rw[if_pos (.inr h2)]) (by unfold doE;rw[if_pos (.inr h2)])⟩
 have hop:¬(op < 1\/10 < op):=by omega
 refine callIs (.inl rfl) (Is_any a) ?_
 refine ⟨fun h3=>?_,fun h3=>callIs (.inl rfl) (Is_any b) ⟨fun h4=>?_,fun h4=>?_⟩⟩
 ·have hn:¬((0<=a/\a<=65535)/\(0<=b/\b<=65535)):=by omega
  exact ⟨rfl,ret2I (by unfold doI;rw[if_neg hop,if_neg hn]) (by unfold doE;rw[if_neg hop,if_neg hn])⟩
 ·have hn:¬((0<=a/\a<=65535)/\(0<=b/\b<=65535)):=by omega
  exact ⟨rfl,ret2I (by unfold doI;rw[if_neg hop,if_neg hn]) (by unfold doE;rw[if_neg hop,if_neg hn])⟩
 obtain ⟨m,rfl⟩:∃ m:Nat,a=(m:Int):=⟨a.toNat,by omega⟩
 obtain ⟨n,rfl⟩:∃ n:Nat,b=(n:Int):=⟨b.toNat,by omega⟩
 have hm:m<=65535:=by omega
 have hn:n<=65535:=by omega
 have fin:∀ (k:Nat) (x:Int),op=(k:Int)->x % 65536=((did k m n:Nat):Int)->∀ h:Heap,RetTo (Is (.tuple [.g (.int (doI op m n)),.g (.int (doE op m n))])) h (.tuple [.g (.int (x % 65536)),.g (.int 0)]):=by
  intro k x hk hx h
  obtain ⟨e1,e2⟩:=do_ok hop rfl rfl hm hn hk
  exact ret2I (by rw[e1,hx]) e2.symm
 refine ⟨fun h=>⟨_,I64.wrap (by unfold I64;omega),_,mask_any _,rfl,fin 1 _ h (by simp only[did];omega) _⟩,fun h5=>?_⟩
 refine ⟨fun h=>⟨by unfold I64;omega,_,mask_any _,rfl,fin 2 _ h (by simp only[did];omega) _⟩,fun h5=>?_⟩
 have hmn:m*n<=65535*65535:=Nat.mul_le_mul hm hn
 have hp:(m:Int)*(n:Int)=((m*n:Nat):Int):=by simp
 refine ⟨fun h=>⟨by rw[hp];unfold I64;omega,_,mask_any _,rfl,fin 3 _ h (by rw[hp];simp only[did];omega) _⟩,fun h5=>?_⟩
 have hand:m &&& n<=65535:=Nat.le_trans Nat.and_le_left hm
 refine ⟨fun h=>⟨_,and_any hm hn,_,mask_any _,rfl,fin 4 _ h (by simp only[did];omega) _⟩,fun h5=>?_⟩
 refine ⟨fun h=>⟨_,or_any hm hn,_,mask_any _,rfl,fin 5 _ h (by have:=or_le hm hn;simp only[did];omega) _⟩,fun h5=>?_⟩
 refine ⟨fun h=>⟨_,xor_any hm hn,_,mask_any _,rfl,fin 6 _ h (by have:=xor_le hm hn;simp only[did];omega) _⟩,fun h5=>?_⟩
 refine ⟨fun h=>callIs (.inl rfl) (truth_any ((m:Int) < n)) ⟨_,mask_any _,rfl,fin 7 _ h (by simp only[did,Int.ofNat_lt];split<;>rfl) _⟩,fun h5=>?_⟩
 refine ⟨fun h=>callIs (.inl rfl) (truth_any ((m:Int)=n)) ⟨_,mask_any _,rfl,fin 8 _ h (by simp only[did,Int.ofNat_inj];split<;>rfl) _⟩,fun h5=>?_⟩
 refine ⟨fun h=>?_,fun h5=>?_⟩
 ·have hb:=shl_le (n:=n) hm
  have hs:=shl_nat m n
  exact ⟨_,mask15 hn,by omega,by rw[hs];unfold I64;omega,_,mask_any _,rfl,fin 9 _ h (by rw[hs];simp only[did];omega) _⟩
 ·have hb:m / 2 ^ (n % 16)<=65535:=Nat.le_trans (Nat.div_le_self _ _) hm
  have hs:=shr_nat m n
  exact ⟨_,mask15 hn,by omega,_,mask_any _,rfl,fin 10 _ (by omega) (by rw[hs];simp only[did];clear hs;generalize m / 2 ^ (n % 16)=q at hb ⊢;omega) _⟩
set_option maxHeartbeats 1000000 in
theorem DidOf_any (op a b:Int):CT Try.prog [] 50 [.g (.int op),.g (.int a),.g (.int b)] (Is (.tuple [.g (.int (doI op a b)),.g (.int (doE op a b))])):=by
 refine enter hT hF hM Try.func50 rfl 122 rfl (by kernel_rfl) [.tmp 6,.tmp 7] rfl [.g (.int op),.g (.int a),.g (.int b)] rfl _ ?_
 refine callIs (.inl rfl) (In_any op 1 10) ⟨fun h1=>?_,fun h1=>?_⟩
 ·exact ⟨rfl,ret2I (by unfold doI;rw[if_pos (by omega)]) (by unfold doE;rw[if_pos (by omega)])⟩
 have hop:¬(op < 1\/10 < op):=by omega
 refine callIs (.inl rfl) (IsWord_any a) ?_
 refine ⟨fun h3=>?_,fun h3=>callIs (.inl rfl) (IsWord_any b) ⟨fun h4=>?_,fun h4=>?_⟩⟩
 ·have hn:¬((0<=a/\a<=65535)/\(0<=b/\b<=65535)):=by omega
  exact ⟨rfl,ret2I (by unfold doI;rw[if_neg hop,if_neg hn]) (by unfold doE;rw[if_neg hop,if_neg hn])⟩
 ·have hn:¬((0<=a/\a<=65535)/\(0<=b/\b<=65535)):=by omega
  exact ⟨rfl,ret2I (by unfold doI;rw[if_neg hop,if_neg hn]) (by unfold doE;rw[if_neg hop,if_neg hn])⟩
 obtain ⟨m,rfl⟩:∃ m:Nat,a=(m:Int):=⟨a.toNat,by omega⟩
 obtain ⟨n,rfl⟩:∃ n:Nat,b=(n:Int):=⟨b.toNat,by omega⟩
 have hm:m<=65535:=by omega
 have hn:n<=65535:=by omega
 have fin:∀ (k:Nat) (x:Int),op=(k:Int)->x=((did k m n:Nat):Int)->∀ h:Heap,RetTo (Is (.tuple [.g (.int (doI op m n)),.g (.int (doE op m n))])) h (.tuple [.g (.int x),.g (.int 0)]):=by
  intro k x hk hx h
  obtain ⟨e1,e2⟩:=do_ok hop rfl rfl hm hn hk
  exact ret2I (by rw[e1,hx]) e2.symm
 refine ⟨fun h=>⟨_,I64.wrap (by unfold I64;omega),by decide,rfl,fin 1 _ h (by rw[Int.tmod_eq_emod_of_nonneg (by omega)];simp only[did];omega) _⟩,fun h5=>?_⟩
 refine ⟨fun h=>⟨_,I64.wrap (by unfold I64;omega),by unfold I64;omega,by decide,rfl,fin 2 _ h (by rw[Int.tmod_eq_emod_of_nonneg (by omega)];simp only[did];omega) _⟩,fun h5=>?_⟩
 have hmn:m*n<=65535*65535:=Nat.mul_le_mul hm hn
 have hp:(m:Int)*(n:Int)=((m*n:Nat):Int):=by simp
 refine ⟨fun h=>⟨by rw[hp];unfold I64;omega,by decide,rfl,fin 3 _ h (by rw[hp,Int.tmod_eq_emod_of_nonneg (by omega)];simp only[did];omega) _⟩,fun h5=>?_⟩
 refine ⟨fun h=>⟨fun h6=>⟨rfl,fin 7 _ h (by simp only[did];rw[if_pos (by omega)];rfl) _⟩,fun h6=>⟨rfl,fin 7 _ h (by simp only[did];rw[if_neg (by omega)];rfl) _⟩⟩,fun h7=>?_⟩
 refine ⟨fun h=>⟨fun h6=>⟨rfl,fin 8 _ h (by simp only[did];rw[if_pos (by omega)];rfl) _⟩,fun h6=>⟨rfl,fin 8 _ h (by simp only[did];rw[if_neg (by omega)];rfl) _⟩⟩,fun h8=>?_⟩
 have en:(n:Int).tmod 16=((n % 16:Nat):Int):=by rw[Int.tmod_eq_emod_of_nonneg (by omega)];rfl
 refine ⟨fun h=>?_,fun h9=>⟨fun h=>?_,fun h10=>?_⟩⟩
 ·refine loopR (ι:=Nat) (fun k=>[(8,.g (.int ((m*2 ^ k % 65536:Nat):Int))),(9,.g (.int (k:Int)))]) (fun _=>[]) (fun k=>k<=n % 16) (fun k=>n % 16 - k)
   ⟨0,[],⟨rfl,.inl rfl,.inr ⟨lkI (by simp;omega),lk rfl,trivial⟩,rfl⟩,Nat.zero_le _⟩ ?_
  intro Rd hRd k hk
  have hd:m*2 ^ k % 65536<=65535:=by omega
  have e1:(2*((m*2 ^ k % 65536:Nat):Int)).tmod 65536=((m*2 ^ (k+1) % 65536:Nat):Int):=by
   have h0:m*2 ^ (k+1)=2*(m*2 ^ k):=by rw[Nat.pow_succ,<- Nat.mul_assoc,Nat.mul_comm]
   rw[Int.tmod_eq_emod_of_nonneg (by omega),h0]
   generalize m*2 ^ k=q
   omega
  have ef:k=n % 16->did 9 m n=m*2 ^ k % 65536:=fun h=>by rw[h];rfl
  generalize m*2 ^ k % 65536=q at hd e1 ef ⊢
  refine ⟨by decide,fun h1=>?_,fun h1=>?_⟩
  ·refine ⟨by unfold I64;omega,by decide,?_⟩
   refine ⟨_,I64.wrap (by unfold I64;omega),?_⟩
   exact hRd _ _ _ ⟨k+1,[],⟨rfl,.inl rfl,.inr ⟨lkI e1,lk rfl,trivial⟩,rfl⟩,by omega,by omega⟩
  ·exact ⟨rfl,fin 9 _ h (by rw[ef (by omega)]) _⟩
 ·refine loopR (ι:=Nat) (fun k=>[(8,.g (.int ((m / 2 ^ k:Nat):Int))),(10,.g (.int (k:Int)))]) (fun _=>[]) (fun k=>k<=n % 16) (fun k=>n % 16 - k)
   ⟨0,[],⟨rfl,.inl rfl,.inr ⟨lkI (by simp),lk rfl,trivial⟩,rfl⟩,Nat.zero_le _⟩ ?_
  intro Rd hRd k hk
  have hd:m / 2 ^ k<=65535:=Nat.le_trans (Nat.div_le_self _ _) hm
  have e1:(((m / 2 ^ k:Nat):Int)).tdiv 2=((m / 2 ^ (k+1):Nat):Int):=by
   rw[Int.tdiv_eq_ediv_of_nonneg (Int.natCast_nonneg _),Nat.pow_succ,<- Nat.div_div_eq_div_mul];rfl
  have hd':m / 2 ^ (k+1)<=65535:=Nat.le_trans (Nat.div_le_self _ _) hm
  have ef:k=n % 16->did 10 m n=m / 2 ^ k:=fun h=>by rw[h];rfl
  generalize hq':m / 2 ^ (k+1)=q' at e1 hd'
  generalize m / 2 ^ k=q at hd e1 ef ⊢
  refine ⟨by decide,fun h1=>?_,fun h1=>?_⟩
  ·refine ⟨by decide,by rw[e1];unfold I64;omega,?_⟩
   refine ⟨_,I64.wrap (by unfold I64;omega),?_⟩
   exact hRd _ _ _ ⟨k+1,[],⟨rfl,.inl rfl,.inr ⟨lkI (e1.trans (by rw[hq'])),lk rfl,trivial⟩,rfl⟩,by omega,by omega⟩
  ·exact ⟨rfl,fin 10 _ h (by rw[ef (by omega)]) _⟩
 ·
  have hk4:op=4\/op=5\/op=6:=by omega
  have hgl:=did_le hm hn hk4
  have hy:=fun k=>did_yes (m:=m) (n:=n) (k:=k) hk4
  have hno:=fun k=>did_no (m:=m) (n:=n) (k:=k) hk4
  have hfin:∀ h:Heap,RetTo (Is (.tuple [.g (.int (doI op m n)),.g (.int (doE op m n))])) h (.tuple [.g (.int ((did op.toNat m n % 2 ^ 16:Nat):Int)),.g (.int 0)]):=by
   obtain ⟨j,hj⟩:∃ j:Nat,op=(j:Int):=⟨op.toNat,by omega⟩
   refine fin j _ hj ?_
   rw[Nat.mod_eq_of_lt (Nat.lt_succ_of_le hgl),hj]
   simp
  clear fin hmn hp en
  generalize did op.toNat m n=g at hgl hy hno hfin
  refine loopR (ι:=Nat) (fun k=>[(8,.g (.int ((g % 2 ^ k:Nat):Int))),(11,.g (.int ((2 ^ k:Nat):Int))),(12,.g (.int (k:Int)))]) (fun _=>[]) (fun k=>k<=16) (fun k=>16 - k)
   ⟨0,[],⟨rfl,.inl rfl,.inr ⟨lkI (by simp[Nat.mod_one]),lk rfl,lk rfl,trivial⟩,rfl⟩,Nat.zero_le _⟩ ?_
  intro Rd hRd k hk
  refine ⟨fun h1=>?_,fun h1=>?_⟩
  ·have hy:=hy k
   have hno:=hno k
   have h2k:2 ^ k<=65536:=Nat.le_trans (Nat.pow_le_pow_right (by decide) (show k<=16 by omega)) (by decide)
   have hp2:(2:Nat) ^ (k+1)=2*2 ^ k:=by rw[Nat.pow_succ,Nat.mul_comm]
   have hq:g % 2 ^ k<=65535:=Nat.le_trans (Nat.mod_le _ _) hgl
   refine callIs (.inl rfl) (bit_any m k hm (by omega)) ?_
   refine callIs (.inl rfl) (bit_any n k hn (by omega)) ?_
   have hx:half m k % 2 < 2:=Nat.mod_lt _ (by decide)
   have hy2:half n k % 2 < 2:=Nat.mod_lt _ (by decide)
   generalize half m k % 2=x at hy hno hx ⊢
   generalize half n k % 2=y at hy hno hy2 ⊢
   have again:∀ (env:Dm.Env) (o:Nat),o=g % 2 ^ (k+1)->env 8=.g (.int (o:Int))->env 11=.g (.int (2*((2 ^ k:Nat):Int)))->env 12=.g (.int ((k:Int)+1))->Rd k ⟨env,[],[]⟩:=by
    intro env o ho e8 e11 e12
    refine hRd _ _ _ ⟨k+1,[],⟨rfl,.inl rfl,.inr ?_,rfl⟩,by omega,by omega⟩
    refine ⟨?_,?_,?_,trivial⟩
    ·show Like _ 4 (conv [] [] 4 (env 8)) _
     rw[e8];exact lkI (by rw[ho])
    ·show Like _ 4 (conv [] [] 4 (env 11)) _
     rw[e11];exact lkI (by rw[hp2];simp)
    ·show Like _ 4 (conv [] [] 4 (env 12)) _
     rw[e12];exact lk rfl
   generalize g % 2 ^ (k+1)=g1 at hy hno again
   generalize g % 2 ^ k=g0 at hy hno hq ⊢
   generalize 2 ^ k=u at hy hno h2k again ⊢
   clear hRd hfin hgl hp2
   have hI:I64 ((x:Int)+(y:Int)):=by unfold I64;omega
   have hJ:I64 ((g0:Int)+(u:Int)):=by unfold I64;omega
   have hU:I64 (2*(u:Int)):=by unfold I64;omega
   have hK:I64 ((k:Int)+1):=by unfold I64;omega
   have hyes:bitC op x y->g0+u=g1:=fun h=>(hy h).symm
   have hnot:¬bitC op x y->g0=g1:=fun h=>(hno h).symm
   clear hy hno
   refine ⟨fun a1=>⟨_,I64.wrap hI,fun a2=>⟨_,I64.wrap hJ,hU,_,I64.wrap hK,again _ (g0+u) (hyes (by unfold bitC;omega)) rfl rfl rfl⟩,fun a2=>⟨fun a3=>absurd a3 (by omega),fun a3=>⟨fun a4=>absurd a4 (by omega),fun a4=>⟨hU,_,I64.wrap hK,again _ g0 (hnot (by unfold bitC;omega)) rfl rfl rfl⟩⟩⟩⟩,fun a1=>⟨fun a2=>?_,fun a2=>?_⟩⟩
   ·exact ⟨_,I64.wrap hI,fun a3=>⟨_,I64.wrap hJ,hU,_,I64.wrap hK,again _ (g0+u) (hyes (by unfold bitC;omega)) rfl rfl rfl⟩,fun a3=>⟨fun a4=>absurd a4 (by omega),fun a4=>⟨hU,_,I64.wrap hK,again _ g0 (hnot (by unfold bitC;omega)) rfl rfl rfl⟩⟩⟩
   ·exact ⟨fun a3=>⟨fun a4=>⟨_,I64.wrap hJ,hU,_,I64.wrap hK,again _ (g0+u) (hyes (by unfold bitC;omega)) rfl rfl rfl⟩,fun a4=>⟨hU,_,I64.wrap hK,again _ g0 (hnot (by unfold bitC;omega)) rfl rfl rfl⟩⟩,fun a3=>absurd a3 (by omega)⟩
  ·have hk16:k=16:=by omega
   subst hk16
   exact ⟨rfl,hfin _⟩
end Go.Proofs.Ythcmdjkaepclhaa
