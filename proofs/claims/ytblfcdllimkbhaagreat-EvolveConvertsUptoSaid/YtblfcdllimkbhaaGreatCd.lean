/- Lemmas and walks for the proof. -/
import Derived.Test.YtblfcdllimkbhaaGreatCc
import Derived.Test.YtblfcdllimkbhaaGreatProg
import Derived.Shelf.Slices.Clone
set_option maxRecDepth 100000
set_option maxHeartbeats 8000000
open Bool renaming true_and→bF,and_true→eZ,false_and→bL,and_false→dF,not_true→bN,not_false→bV,true_or→cR,false_or→bK,or_eq_false_iff→cY,or_eq_true→fB,not_eq_true→lD,or_false→oV,and_eq_true→bI,or_self→uG
open Nat renaming mul_le_mul_right→gD,pow_succ→DC,mul_comm→qO,add_mul→zC,mul_assoc→aDX,add_assoc→sF,pow_le_pow_right→DE,zero_le→aP,le_trans→dM,le_refl→bE,eq_zero_or_pos→gK,not_lt_zero→uF
open List renaming length_cons→bP,take_append_drop→sH,drop_left→aDY,length_append→bW,append_assoc→gV,length_take→eJ,mem_cons→bU,drop_eq_getElem_cons→cG,drop_length→dT,length_eq_zero_iff→T7,getElem?_take→gW,getElem?_eq_none→iE,map_cons→gC,flatten_cons→fA,mem_map→dO,length_map→cE,getElem?_map→b9,map_map→fK,cons_ne_nil→aDZ,take_length→eC,ext_getElem?→iF,drop_eq_nil_of_le→JU,length_eq_one_iff→lZ,any_nil→aCZ,cons_append→sG,singleton_append→T8,append_nil→fI,mem_cons_self→eI,pairwise_cons→gU,mem_cons_of_mem→eD,getElem?_append_left→lY,mem_iff_getElem?→eN,mem_append→cL,find?_cons→nQ,foldl_append→zI,any_cons→sZ,drop_eq_nil_iff→iD
open Int renaming toNat_natCast→cP,toNat_of_nonneg→s0,le_refl→iC
open Option renaming isSome_iff_exists→oW
namespace Go.Proofs.YtblfcdllimkbhaaGreat
open Go.W
def BU:Nat->Nat->List UInt8->Nat×Nat×Int
 |_,_,[]=>(0,0,1)
 |i,n,c::r=>bif i==9&&decide (1<c.toNat) then (0,0,2) else bif decide (128<=c.toNat) then BU (i+1) (n+c.toNat % 128*128 ^ i) r else bif c.toNat==0&&decide (0<i) then (0,0,2) else (n+c.toNat % 128*128 ^ i,i+1,0)
theorem VH (i n:Nat):BU i n []=(0,0,1):=by rw[BU]
theorem A1 (i n:Nat) (c:UInt8) (r:List UInt8):BU i n (c::r)=bif i==9&&decide (1<c.toNat) then (0,0,2) else bif decide (128<=c.toNat) then BU (i+1) (n+c.toNat % 128*128 ^ i) r else bif c.toNat==0&&decide (0<i) then (0,0,2) else (n+c.toNat % 128*128 ^ i,i+1,0):=by rw[BU]
def vr (l:List UInt8):Nat×Nat×Int:=BU 0 0 l
theorem aCS:∀(l:List UInt8) (i a n k:Nat) (e:Int),i<=9->a<128 ^ i->BU i a l=(n,k,e)->(e≠0/\n=0/\k=0/\(e=1\/e=2))\/
 (e=0/\∃m j,n=a+m*128 ^ i/\k=i+j/\j=(uL (10-i) m).length/\0<j/\j<=l.length/\l.take j=uL (10-i) m/\(0<i->0<m)/\n<18446744073709551616)
 |[],i,a,n,k,e,_,_,h=>by
  rw[VH] at h
  simp only[Prod.mk.injEq] at h
  obtain ⟨rfl,rfl,rfl⟩:=h
  exact .inl ⟨by decide,rfl,rfl,.inl rfl⟩
 |c::r,i,a,n,k,e,hi,ha,h=>by
  rw[A1] at h
  have hpos:0<128 ^ i:=Nat.pow_pos (by decide)
  cases c1:i==9&&decide (1<c.toNat) with
  |true=>
   rw[c1] at h
   simp only[aQ,Prod.mk.injEq] at h
   obtain ⟨rfl,rfl,rfl⟩:=h
   exact .inl ⟨by decide,rfl,rfl,.inr rfl⟩
  |false=>
  rw[c1,aI] at h
  cases c2:decide (128<=c.toNat) with
  |true=>
   rw[c2,aQ] at h
   have h128:=iO c2
   have hi9:i≠9:=fun e=>by subst e;rw[show ((9:Nat)==9)=true from rfl,bF] at c1;have:=gL c1;omega
   have hc:=c.toNat_lt
   have hm:c.toNat % 128<=127:=by omega
   have hmul:c.toNat % 128*128 ^ i<=127*128 ^ i:=gD _ hm
   have hp:128 ^ (i+1)=128*128 ^ i:=by rw[DC,qO]
   rcases aCS r (i+1) _ n k e (by omega) (by rw[hp];omega) h with h|⟨he,m,j,h1,h2,h3,h4,h5,h6,h7,h8⟩
   · exact .inl h
   · have hm0:=h7 (by omega)
     have hfu:10-i=(10-(i+1))+1:=by omega
     have hmm:¬ c.toNat % 128+128*m<128:=by omega
     have hd:(c.toNat % 128+128*m) / 128=m:=by omega
     have hr:(c.toNat % 128+128*m) % 128+128=c.toNat:=by omega
     have hu:uL (10-i) (c.toNat % 128+128*m)=c::uL (10-(i+1)) m:=by
      rw[hfu,yB hmm,hd,hr]
      simp
     refine .inr ⟨he,c.toNat % 128+128*m,j+1,?_,by omega,by rw[hu,bP,h3],by omega,by simp;omega,by rw[hu,List.take_succ_cons,h6],fun _=>by omega,h8⟩
     rw[h1,hp,zC,qO 128 m,aDX,sF]
  |false=>
   rw[c2,aI] at h
   have hlt:c.toNat<128:=by have:=gL c2;omega
   cases c3:c.toNat==0&&decide (0<i) with
   |true=>
    rw[c3] at h
    simp only[aQ,Prod.mk.injEq] at h
    obtain ⟨rfl,rfl,rfl⟩:=h
    exact .inl ⟨by decide,rfl,rfl,.inr rfl⟩
   |false=>
    rw[c3] at h
    simp only[aI,Prod.mk.injEq] at h
    obtain ⟨rfl,rfl,rfl⟩:=h
    have hm:c.toNat % 128=c.toNat:=by omega
    have hu:uL (10-i) c.toNat=[c]:=by rw[rG (by omega) hlt];simp
    refine .inr ⟨rfl,c.toNat,1,by rw[hm],rfl,by rw[hu];rfl,by decide,by simp,by rw[hu];rfl,fun h0=>?_,?_⟩
    · rw[eE h0,eZ] at c3
      have:=ne_of_beq_false c3
      omega
    · rw[hm]
      rcases bB i 9 with h9|h9
      · have h1:128 ^ i<=128 ^ 8:=DE (by decide) (by omega)
        have h2:c.toNat*128 ^ i<=127*128 ^ i:=gD _ (by omega)
        have h3:(128:Nat) ^ 8=72057594037927936:=by decide
        omega
      · obtain rfl:i=9:=by omega
        rw[show ((9:Nat)==9)=true from rfl,bF] at c1
        have h1:=gL c1
        have h3:(128:Nat) ^ 9=9223372036854775808:=by decide
        rw[h3] at ha ⊢
        have:c.toNat<=1:=by omega
        rcases Nat.le_one_iff_eq_zero_or_eq_one.1 this with h|h<;>rw[h]<;>omega
theorem D5 (l:List UInt8):((vr l).2.2≠0/\(vr l).1=0/\(vr l).2.1=0/\((vr l).2.2=1\/(vr l).2.2=2))\/
 ((vr l).2.2=0/\(vr l).2.1=(vi (vr l).1).length/\0<(vr l).2.1/\(vr l).2.1<=l.length/\l.take (vr l).2.1=vi (vr l).1/\(vr l).1<18446744073709551616):=by
 rcases aCS l 0 0 (vr l).1 (vr l).2.1 (vr l).2.2 (by decide) (by decide) rfl with h|⟨h0,m,j,h1,h2,h3,h4,h5,h6,_,h8⟩
 · exact .inl h
 · have e1:(vr l).1=m:=by rw[h1];simp
   have e2:(vr l).2.1=j:=by rw[h2];simp
   rw[e1] at h8
   rw[e1,e2]
   exact .inr ⟨h0,h3,h4,h5,h6,h8⟩
theorem aAW:∀(f i a m:Nat) (r:List UInt8),f+i=10->0<f->m*128 ^ i<18446744073709551616->(0<i->0<m)->BU i a (uL f m++r)=(a+m*128 ^ i,i+(uL f m).length,0)
 |0,i,a,m,r,_,h,_,_=>absurd h (by decide)
 |f+1,i,a,m,r,hf,_,hm,h0=>by
  by_cases hlt:m<128
  · rw[rG (by omega) hlt]
    show BU i a (m.toUInt8::r)=_
    have ht:m.toUInt8.toNat=m:=by show m % 256=m;omega
    rw[A1,ht]
    have c1:(i==9&&decide (1<m))=false:=by
     cases h9:i==9 with
     |false=>rfl
     |true=>
      have h9:i=9:=eq_of_beq h9
      subst h9
      rw[bF,qF]
      have h3:(128:Nat) ^ 9=9223372036854775808:=by decide
      rw[h3] at hm
      omega
    have c3:(m==0&&decide (0<i))=false:=by
     cases hz:m==0 with
     |false=>rfl
     |true=>
      have hz:m=0:=eq_of_beq hz
      rw[bF,qF]
      intro hi
      have:=h0 hi
      omega
    rw[c1,dP (show ¬ 128<=m by omega),c3,show m % 128=m by omega]
    rfl
  · rw[yB hlt]
    show BU i a ((m % 128+128).toUInt8::(uL f (m / 128)++r))=_
    have ht:(m % 128+128).toUInt8.toNat=m % 128+128:=by show (m % 128+128) % 256=_;omega
    have hi9:i<9:=by
     rcases bB i 9 with h|h
     · exact h
     · have:128 ^ 9<=128 ^ i:=DE (by decide) h
       have h3:(128:Nat) ^ 9=9223372036854775808:=by decide
       have h4:128*128 ^ i<=m*128 ^ i:=gD _ (by omega)
       omega
    have c1:(i==9&&decide (1<(m % 128+128)))=false:=by
     rw[show (i==9)=false by simp;omega];rfl
    have hp:128 ^ (i+1)=128*128 ^ i:=by rw[DC,qO]
    have hdm:m % 128+128*(m / 128)=m:=Nat.mod_add_div m 128
    have hsum:m % 128*128 ^ i+m / 128*128 ^ (i+1)=m*128 ^ i:=by
     rw[hp,<-aDX,qO (m / 128) 128,<-zC,hdm]
    rw[A1,ht,c1,eE (show 128<=m % 128+128 by omega),aI,aQ,show (m % 128+128) % 128=m % 128 by omega,
     aAW f (i+1) _ (m / 128) r (by omega) (by omega) (by omega) (fun _=>by omega)]
    rw[sF,hsum,bP,show i+1+(uL f (m / 128)).length=i+((uL f (m / 128)).length+1) by omega]
theorem aL3 {n:Nat} (h:n<18446744073709551616) (r:List UInt8):vr (vi n++r)=(n,(vi n).length,0):=by
 have:=aAW 10 0 0 n r rfl (by decide) (by simpa using h) (fun h=>absurd h (by decide))
 unfold vr vi
 rw[this];simp
theorem JN (n:Nat):0<(vi n).length:=by
 unfold vi
 by_cases h:n<128
 · rw[rG (by decide) h];exact Nat.one_pos
 · rw[yB h];simp
def bY (l:List UInt8):Nat×List UInt8×Int:=bif (vr l).2.2 != 0 then (0,[],(vr l).2.2) else ((vr l).1,l.drop (vr l).2.1,0)
def cU (l:List UInt8):List UInt8×List UInt8×Int:=bif (bY l).2.2 != 0 then ([],[],(bY l).2.2) else bif decide ((bY l).2.1.length<(bY l).1) then ([],[],1) else ((bY l).2.1.take (bY l).1,(bY l).2.1.drop (bY l).1,0)
def cH (l:List UInt8) (last:Int):(Int×List UInt8)×List UInt8×Int:=
 bif (bY l).2.2 != 0 then ((0,[]),[],(bY l).2.2) else bif decide (2147483647<(bY l).1) then ((0,[]),[],4) else bif decide (((bY l).1:Int)<=last) then ((0,[]),[],2)
 else ((((bY l).1:Int),(cU (bY l).2.1).1),(cU (bY l).2.1).2.1,(cU (bY l).2.1).2.2)
theorem wW {x:Int} (h:(x != 0)=false):x=0:=by simpa using h
theorem N6 {x:Int} (h:(x != 0)=true):x≠0:=by simpa using h
theorem I2 (l:List UInt8):((bY l).2.2≠0/\(bY l).1=0/\(bY l).2.1=[]/\((bY l).2.2=1\/(bY l).2.2=2))\/((bY l).2.2=0/\l=vi (bY l).1++(bY l).2.1/\(bY l).1<18446744073709551616):=by
 unfold bY
 rcases D5 l with ⟨h,h1,h2,h3⟩|⟨h0,h1,h2,h3,h4,h5⟩
 · rw[show ((vr l).2.2 != 0)=true by simpa using h]
   exact .inl ⟨h,rfl,rfl,h3⟩
 · rw[h0]
   refine .inr ⟨rfl,?_,h5⟩
   show l=vi (vr l).1++l.drop (vr l).2.1
   rw[<-h4,sH]
theorem ZK {n:Nat} (h:n<18446744073709551616) (r:List UInt8):bY (vi n++r)=(n,r,0):=by
 unfold bY
 rw[aL3 h r]
 show (n,(vi n++r).drop (vi n).length,(0:Int))=_
 rw[aDY]
theorem C2 (l:List UInt8):(bY l).2.1.length<=l.length/\((bY l).2.2=0->(bY l).2.1.length<l.length):=by
 rcases I2 l with ⟨h,_,h2,_⟩|⟨_,h1,_⟩
 · rw[h2];exact ⟨aP _,fun e=>absurd e h⟩
 · have:=congrArg List.length h1
   have hp:=JN (bY l).1
   rw[bW] at this
   exact ⟨by omega,fun _=>by omega⟩
theorem aJN (l:List UInt8):((cU l).2.2≠0/\(cU l).1=[]/\(cU l).2.1=[]/\((cU l).2.2=1\/(cU l).2.2=2))\/((cU l).2.2=0/\l=vi (cU l).1.length++(cU l).1++(cU l).2.1):=by
 unfold cU
 rcases I2 l with ⟨h,_,_,h3⟩|⟨h0,h1,h2⟩
 · rw[show ((bY l).2.2 != 0)=true by simpa using h]
   exact .inl ⟨h,rfl,rfl,h3⟩
 · rw[h0]
   show (_\/_)
   rw[show ((0:Int) != 0)=false from rfl,aI]
   cases hd:decide ((bY l).2.1.length<(bY l).1) with
   |true=>exact .inl ⟨by show (1:Int)≠0;decide,rfl,rfl,.inl rfl⟩
   |false=>
    have:=gL hd
    refine .inr ⟨rfl,?_⟩
    show l=vi ((bY l).2.1.take (bY l).1).length++(bY l).2.1.take (bY l).1++(bY l).2.1.drop (bY l).1
    rw[gV,sH,eJ,Nat.min_eq_left (by omega)]
    exact h1
theorem aKP {x:List UInt8} (h:x.length<18446744073709551616) (r:List UInt8):cU (vi x.length++x++r)=(x,r,0):=by
 unfold cU
 rw[gV,ZK h]
 show (bif decide ((x++r).length<x.length) then _ else ((x++r).take x.length,(x++r).drop x.length,(0:Int)))=_
 rw[dP (by simp),List.take_left,aDY];rfl
theorem RK (l:List UInt8):(cU l).1.length<=l.length/\(cU l).2.1.length<=l.length/\((cU l).2.2=0->(cU l).1.length+(cU l).2.1.length<l.length):=by
 rcases aJN l with ⟨h,h1,h2,_⟩|⟨_,h1⟩
 · rw[h1,h2];exact ⟨aP _,aP _,fun e=>absurd e h⟩
 · have:=congrArg List.length h1
   have hp:=JN (cU l).1.length
   rw[bW,bW] at this
   exact ⟨by omega,by omega,fun _=>by omega⟩
theorem a2E (l:List UInt8) (last:Int):((cH l last).2.2≠0)\/((cH l last).2.2=0/\last<(cH l last).1.1/\0<=(cH l last).1.1/\(cH l last).1.1<=2147483647/\l=vi (cH l last).1.1.toNat++(vi (cH l last).1.2.length++(cH l last).1.2)++(cH l last).2.1):=by
 unfold cH
 rcases I2 l with ⟨h,_,_,_⟩|⟨h0,h1,h2⟩
 · rw[show ((bY l).2.2 != 0)=true by simpa using h]
   exact .inl h
 · rw[h0,show ((0:Int) != 0)=false from rfl,aI]
   cases hd:decide (2147483647<(bY l).1) with
   |true=>exact .inl (by show (4:Int)≠0;decide)
   |false=>
   rw[aI]
   cases hq:decide (((bY l).1:Int)<=last) with
   |true=>exact .inl (by show (2:Int)≠0;decide)
   |false=>
   rw[aI]
   have g1:=gL hd
   have g2:=gL hq
   rcases aJN (bY l).2.1 with ⟨h,_,_,_⟩|⟨h3,h4⟩
   · exact .inl h
   · refine .inr ⟨h3,by show last<((bY l).1:Int);omega,by show (0:Int)<=((bY l).1:Int);omega,by show ((bY l).1:Int)<=2147483647;omega,?_⟩
     show l=vi ((bY l).1:Int).toNat++(vi (cU (bY l).2.1).1.length++(cU (bY l).2.1).1)++(cU (bY l).2.1).2.1
     rw[cP,gV,<-h4]
     exact h1
theorem aY7 {n:Nat} {x:List UInt8} {last:Int} (h1:n<=2147483647) (h2:last<n) (h:x.length<18446744073709551616) (r:List UInt8):cH (vi n++(vi x.length++x)++r) last=(((n:Int),x),r,0):=by
 unfold cH
 rw[gV,ZK (by omega)]
 show (bif decide (2147483647<n) then _ else bif decide ((n:Int)<=last) then _ else (((n:Int),(cU (vi x.length++x++r)).1),(cU (vi x.length++x++r)).2.1,(cU (vi x.length++x++r)).2.2))=_
 rw[dP (by omega),dP (by omega),aKP h];rfl
theorem ZP (l:List UInt8) (last:Int):(cH l last).1.2.length<=l.length/\(cH l last).2.1.length<=l.length/\((cH l last).2.2=0->(cH l last).1.2.length+(cH l last).2.1.length<l.length):=by
 have h1:=C2 l
 have h2:=RK (bY l).2.1
 unfold cH
 cases (bY l).2.2 != 0 with
 |true=>exact ⟨aP _,aP _,fun e=>by
  rcases I2 l with ⟨h,_⟩|⟨h,_⟩
  · exact absurd e h
  · have:=h1.2 h;show 0+0<_;omega⟩
 |false=>
 rw[aI]
 cases decide (2147483647<(bY l).1) with
 |true=>exact ⟨aP _,aP _,fun e=>absurd e (by show (4:Int)≠0;decide)⟩
 |false=>
 rw[aI]
 cases decide (((bY l).1:Int)<=last) with
 |true=>exact ⟨aP _,aP _,fun e=>absurd e (by show (2:Int)≠0;decide)⟩
 |false=>
  exact ⟨dM h2.1 h1.1,dM h2.2.1 h1.1,fun e=>Nat.lt_of_lt_of_le (h2.2.2 e) h1.1⟩
def B3 (n:Int):Nat:=if n<0 then (2*(-(n+1))+1).toNat else (2*n).toNat
def CE (n:Nat):Int:=if n % 2=1 then -1-((n / 2:Nat):Int) else ((n / 2:Nat):Int)
inductive Vl where
 |mk (k n:Int) (s:ByteArray) (l:List Vl) (f:List (Int×Vl))
instance:Inhabited Vl:=⟨.mk 0 0 ByteArray.empty [] []⟩
def Vl.k:Vl->Int | .mk k _ _ _ _=>k
def Vl.n:Vl->Int | .mk _ n _ _ _=>n
def Vl.s:Vl->ByteArray | .mk _ _ s _ _=>s
def Vl.l:Vl->List Vl | .mk _ _ _ l _=>l
def Vl.f:Vl->List (Int×Vl) | .mk _ _ _ _ f=>f
mutual
def aW:Vl->List C
 |.mk k n s l f=>[.vl (.int .i64 k),.vl (.int .i64 n),.vl (.string s),.fz (s8 l),.fz (s7 f)]
def s8:List Vl->List (List C)
 |[]=>[]
 |v::r=>aW v::s8 r
def s7:List (Int×Vl)->List (List C)
 |[]=>[]
 | (i,v)::r=>(.vl (.int .i64 i)::aW v)::s7 r
end
def bG (x:Int×Vl):List C:=.vl (.int .i64 x.1)::aW x.2
theorem rI:∀l:List Vl,s8 l=l.map aW
 |[]=>rfl
 |v::r=>by rw[s8,rI r];rfl
theorem rC:∀l:List (Int×Vl),s7 l=l.map bG
 |[]=>rfl
 | (i,v)::r=>by rw[s7,rC r];rfl
theorem aJ (v:Vl):aW v=[.vl (.int .i64 v.k),.vl (.int .i64 v.n),.vl (.string v.s),.fz (v.l.map aW),.fz (v.f.map bG)]:=by
 cases v with
 |mk k n s l f=>rw[aW,rI,rC];rfl
theorem l9 (x:Int×Vl):bG x=[.vl (.int .i64 x.1),.vl (.int .i64 x.2.k),.vl (.int .i64 x.2.n),.vl (.string x.2.s),.fz (x.2.l.map aW),.fz (x.2.f.map bG)]:=by
 show C.vl (.int .i64 x.1)::aW x.2=_
 rw[aJ]
mutual
theorem D2:∀{a b:Vl},aW a=aW b->a=b
 |.mk k n s l f,.mk k' n' s' l' f',h=>by
  rw[aW,aW] at h
  simp only[List.cons.injEq,C.vl.injEq,Value.int.injEq,Value.string.injEq,C.fz.injEq,true_and,and_true] at h
  obtain ⟨rfl,rfl,rfl,h4,h5⟩:=h
  rw[P6 h4,RH h5]
theorem P6:∀{a b:List Vl},s8 a=s8 b->a=b
 |[],[],_=>rfl
 |[],_::_,h=>by rw[s8,s8] at h;cases h
 |_::_,[],h=>by rw[s8,s8] at h;cases h
 |x::a,y::b,h=>by
  rw[s8,s8] at h
  obtain ⟨h1,h2⟩:=List.cons.inj h
  rw[D2 h1,P6 h2]
theorem RH:∀{a b:List (Int×Vl)},s7 a=s7 b->a=b
 |[],[],_=>rfl
 |[],(_,_)::_,h=>by rw[s7,s7] at h;cases h
 | (_,_)::_,[],h=>by rw[s7,s7] at h;cases h
 | (i,x)::a,(j,y)::b,h=>by
  rw[s7,s7] at h
  obtain ⟨h1,h2⟩:=List.cons.inj h
  obtain ⟨h3,h4⟩:=List.cons.inj h1
  have e:i=j:=by simpa using h3
  rw[e,D2 h4,RH h2]
end
noncomputable def C.vv:=xP aW
@[go_sem] theorem jL (v:Vl):C.vv (aW v)=v:=mZ D2 v
mutual
def Vl.h:Vl->Nat
 |.mk _ _ _ l f=>max (Vl.hl l) (Vl.hf f)+1
def Vl.hl:List Vl->Nat
 |[]=>0
 |v::r=>max v.h (Vl.hl r)
def Vl.hf:List (Int×Vl)->Nat
 |[]=>0
 | (_,v)::r=>max v.h (Vl.hf r)
end
theorem Vl.h_pos (v:Vl):0<v.h:=by cases v;rw[Vl.h];omega
theorem Vl.hl_mem:∀{l:List Vl} {v:Vl},v∈l->v.h<=Vl.hl l
 |x::l,v,h=>by
  rw[Vl.hl]
  rcases bU.1 h with rfl|h
  · omega
  · have:=Vl.hl_mem h;omega
theorem Vl.hf_mem:∀{l:List (Int×Vl)} {x:Int×Vl},x∈l->x.2.h<=Vl.hf l
 | (i,y)::l,x,h=>by
  rw[Vl.hf]
  rcases bU.1 h with rfl|h
  · dsimp only;omega
  · have:=Vl.hf_mem h;omega
theorem Vl.h_l {v x:Vl} (h:x∈v.l):x.h<v.h:=by
 cases v with
 |mk k n s l f=>have:=Vl.hl_mem (show x∈l from h);rw[Vl.h];omega
theorem Vl.h_f {v:Vl} {x:Int×Vl} (h:x∈v.f):x.2.h<v.h:=by
 cases v with
 |mk k n s l f=>have:=Vl.hf_mem (show x∈f from h);rw[Vl.h];omega
inductive VlOk:Vl->Prop
 |mk {k n:Int} {s:ByteArray} {l:List Vl} {f:List (Int×Vl)}:cB k->cB n->s.size<=9223372036854775807->l.length*80<=140737488355328->f.length*88<=140737488355328->(∀v∈l,VlOk v)->(∀x∈f,cB x.1)->(∀x∈f,VlOk x.2)->VlOk (.mk k n s l f)
theorem VlOk.k {v:Vl} (h:VlOk v):cB v.k:=by cases h;assumption
theorem VlOk.n {v:Vl} (h:VlOk v):cB v.n:=by cases h;assumption
theorem VlOk.s {v:Vl} (h:VlOk v):v.s.size<=9223372036854775807:=by cases h;assumption
theorem VlOk.ll {v:Vl} (h:VlOk v):v.l.length*80<=140737488355328:=by cases h;assumption
theorem VlOk.lf {v:Vl} (h:VlOk v):v.f.length*88<=140737488355328:=by cases h;assumption
theorem VlOk.l {v:Vl} (h:VlOk v):∀x∈v.l,VlOk x:=by cases h;assumption
theorem VlOk.fn {v:Vl} (h:VlOk v):∀x∈v.f,cB x.1:=by cases h;assumption
theorem VlOk.f {v:Vl} (h:VlOk v):∀x∈v.f,VlOk x.2:=by cases h;assumption
def qH (r:List C):Prop:=∃v,r=aW v/\VlOk v
theorem D4 {v:Vl} (h:VlOk v):qH (aW v):=⟨v,rfl,h⟩
def pc5:PC:=.S [.z 1 29 0,.c 2 0] (.S [.c 3 1] (.seq (.S [.c 4 0] (.block 0 (.loop (.seq (.S [.v 6 4,.f 7 3 1,.r 8 7,.m 9 8,.q 10 (.bin .lss false jZ iR)] (.C 10 .skip (.exit 0))) (.seq (.block 1 (.reg [.v 13 3,.f 14 3 1,.r 15 14,.v 16 4,.x 17 5 15 16,.n 18 5 17,.u 19 5 [iV],.q 20 (.bin .add false kW gT),.v 3 20])) (.reg [.v 11 4,.q 12 (.bin .add false kJ lR),.v 4 12])))))) (.seq (.S [.c 5 0] (.block 2 (.loop (.seq (.S [.v 21 5,.f 22 4 1,.r 23 22,.m 24 23,.q 25 (.bin .lss false hJ kQ)] (.C 25 .skip (.exit 2))) (.seq (.block 3 (.reg [.v 28 3,.f 29 4 1,.r 30 29,.v 31 5,.x 32 6 30 31,.f 33 1 32,.n 34 5 33,.u 35 5 [rZ],.q 36 (.bin .add false g7 qG),.v 3 36])) (.reg [.v 26 5,.q 27 (.bin .add false j7 lR),.v 5 27])))))) (.R [.v 37 3,.v 2 37]))))
def rs5:List RV:=[.mv (.t 2)]
theorem ok5:aU Tryz.prog false ⟨fun r k=>if r=5/\k=6 then .q else if r=9/\k=7 then .q else .own [],fun _=>false⟩ Tryz.f5=some (pc5,rs5):=by kernel_rfl
def pc9:PC:=.S [.z 2 29 0,.z 3 29 1,.F 4] (.R [.n 5 5 2,.n 6 5 3,.u 7 24 [kM,jZ],.h 8 .eql 7 0,.v 4 8])
def rs9:List RV:=[.mv (.t 4)]
theorem ok9:aU Tryz.prog true ⟨fun r k=>if r=1/\k=2 then .q else .own [],fun _=>false⟩ Tryz.f9=some (pc9,rs9):=by kernel_rfl
def aGR:PC:=.S [.z 3 25 0,.z 4 45 1,.z 5 29 2,.c 6 0] (.seq (.S [.n 7 5 5,.u 8 56 [iX],.h 9 .gtr 8 6] (.I 9 (.R [.c 6 9]))) (.R [.n 10 3 3,.n 11 4 4,.n 12 5 5,.u 13 57 [jK,kJ,kB],.v 6 13]))
def aFM:List RV:=[.mv (.t 6)]
theorem a7M:aU Tryz.prog true ⟨fun r k=>if r=1/\k=1 then .q else if r=3/\k=3 then .q else .own [],fun _=>false⟩ Tryz.f21=some (aGR,aFM):=by kernel_rfl
def aWY:PC:=.S [.z 2 29 0,.z 3 29 1,.c 4 0] (.seq (.S [.f 10 0 2,.r 11 10,.f 12 0 3,.r 13 12,.k 14 .neq 11 13] (.I 14 (.R [.f 15 0 2,.r 16 15,.f 17 0 3,.r 18 17,.u 19 60 [lC,iV],.v 4 19]))) (.seq (.S [.f 20 1 2,.r 21 20,.f 22 1 3,.r 23 22,.k 24 .lss 21 23] (.I 24 (.R [.c 4 (-1)]))) (.seq (.S [.f 25 1 2,.r 26 25,.f 27 1 3,.r 28 27,.k 29 .gtr 26 28] (.I 29 (.R [.c 4 1]))) (.seq (.S [.f 30 2 2,.r 31 30,.f 32 2 3,.r 33 32,.u 34 61 [pV,mJ],.v 5 34] (.S [.v 35 5,.h 36 .neq 35 0] (.I 36 (.R [.v 37 5,.v 4 37])))) (.seq (.S [.c 6 0] (.block 0 (.loop (.seq (.S [.v 38 6,.f 39 3 2,.r 40 39,.m 41 40,.k 42 .lss 38 41,.v 43 42,.Y 44 43 (.v 6),.Y 45 43 (.f 3 3),.Y 46 43 (.r 45),.Y 47 43 (.m 46),.Y 48 43 (.k .lss 44 47),.p 49 43 48] (.C 49 .skip (.exit 0))) (.seq (.block 1 (.S [.f 52 3 2,.r 53 52,.v 54 6,.x 55 5 53 54,.n 56 5 55,.f 57 3 3,.r 58 57,.v 59 6,.x 60 5 58 59,.n 61 5 60,.u 62 24 [rT,tT],.v 7 62] (.S [.v 63 7,.h 64 .neq 63 0] (.I 64 (.R [.v 65 7,.v 4 65]))))) (.reg [.v 50 6,.h 51 .add 50 1,.v 6 51])))))) (.seq (.S [.f 66 3 2,.r 67 66,.m 68 67,.f 69 3 3,.r 70 69,.m 71 70,.k 72 .neq 68 71] (.I 72 (.R [.f 73 3 2,.r 74 73,.m 75 74,.f 76 3 3,.r 77 76,.m 78 77,.u 79 60 [AB,(.t 78)],.v 4 79]))) (.seq (.S [.c 8 0] (.block 2 (.loop (.seq (.S [.v 80 8,.f 81 4 2,.r 82 81,.m 83 82,.k 84 .lss 80 83,.v 85 84,.Y 86 85 (.v 8),.Y 87 85 (.f 4 3),.Y 88 85 (.r 87),.Y 89 85 (.m 88),.Y 90 85 (.k .lss 86 89),.p 91 85 90] (.C 91 .skip (.exit 2))) (.seq (.block 3 (.seq (.S [.f 94 4 2,.r 95 94,.v 96 8,.x 97 6 95 96,.f 98 0 97,.r 99 98,.f 100 4 3,.r 101 100,.v 102 8,.x 103 6 101 102,.f 104 0 103,.r 105 104,.k 106 .neq 99 105] (.I 106 (.R [.f 107 4 2,.r 108 107,.v 109 8,.x 110 6 108 109,.f 111 0 110,.r 112 111,.f 113 4 3,.r 114 113,.v 115 8,.x 116 6 114 115,.f 117 0 116,.r 118 117,.u 119 60 [(.t 112),(.t 118)],.v 4 119]))) (.S [.f 120 4 2,.r 121 120,.v 122 8,.x 123 6 121 122,.f 124 1 123,.n 125 5 124,.f 126 4 3,.r 127 126,.v 128 8,.x 129 6 127 128,.f 130 1 129,.n 131 5 130,.u 132 24 [(.t 125),(.t 131)],.v 9 132] (.S [.v 133 9,.h 134 .neq 133 0] (.I 134 (.R [.v 135 9,.v 4 135])))))) (.reg [.v 92 8,.h 93 .add 92 1,.v 8 93])))))) (.R [.f 136 4 2,.r 137 136,.m 138 137,.f 139 4 3,.r 140 139,.m 141 140,.u 142 60 [(.t 138),(.t 141)],.v 4 142]))))))))
def aV0:List RV:=[.mv (.t 4)]
theorem a6X:aU Tryz.prog true ⟨fun r k=>if r=2/\k=4 then .q else if r=7/\k=4 then .q else if r=13/\k=10 then .q else if r=17/\k=6 then .q else if r=22/\k=12 then .q else if r=23/\k=12 then .q else if r=26/\k=6 then .q else .own [],fun _=>false⟩ Tryz.f24=some (aWY,aV0):=by kernel_rfl
def aU8:PC:=.S [.c 4 0] (.seq (.S [.v 5 0,.v 6 1,.k 7 .lss 5 6] (.I 7 (.R [.c 4 (-1)]))) (.seq (.S [.v 8 0,.v 9 1,.k 10 .gtr 8 9] (.I 10 (.R [.c 4 1]))) (.R [.c 4 0])))
def aUQ:List RV:=[.mv (.t 4)]
theorem a7A:aU Tryz.prog true ⟨fun _ _=>.own [],fun _=>false⟩ Tryz.f60=some (aU8,aUQ):=by kernel_rfl
def aW3:PC:=.S [.c 4 0] (.seq (.S [.c 5 0] (.block 0 (.loop (.seq (.S [.v 6 5,.v 7 0,.q 8 (.lnS iX),.k 9 .lss 6 8,.v 10 9,.Y 11 10 (.v 5),.Y 12 10 (.v 1),.Y 13 10 (.q (.lnS kB)),.Y 14 10 (.k .lss 11 13),.p 15 10 14] (.C 15 .skip (.exit 0))) (.seq (.block 1 (.seq (.S [.v 18 0,.v 19 5,.a 20 (.ix iV gT),.v 21 1,.v 22 5,.a 23 (.ix hJ jO),.k 24 .lss 20 23] (.I 24 (.R [.c 4 (-1)]))) (.S [.v 25 0,.v 26 5,.a 27 (.ix kI j7),.v 28 1,.v 29 5,.a 30 (.ix g7 lB),.k 31 .gtr 27 30] (.I 31 (.R [.c 4 1]))))) (.reg [.v 16 5,.h 17 .add 16 1,.v 5 17])))))) (.R [.v 32 0,.q 33 (.lnS qA),.v 34 1,.q 35 (.lnS rZ),.u 36 60 [mJ,qG],.v 4 36]))
def aQL:List RV:=[.mv (.t 4)]
theorem a9H:aU Tryz.prog true ⟨fun r k=>if r=8/\k=4 then .q else .own [],fun _=>false⟩ Tryz.f61=some (aW3,aQL):=by kernel_rfl
def aM6:PC:=.S [.z 2 25 0,.A 4 #[(.string (mk [])),(.slice none 0 0)] 50,.F 5] (.seq (.S [.c 6 0] (.block 0 (.loop (.seq (.S [.v 7 6,.f 8 2 2,.r 9 8,.m 10 9,.k 11 .lss 7 10] (.C 11 .skip (.exit 0))) (.seq (.block 1 (.S [.f 14 2 2,.r 15 14,.v 16 6,.x 17 2 15 16,.f 18 0 17,.r 19 18,.v 20 1,.k 21 .eql 19 20] (.I 21 (.R [.f 22 2 2,.r 23 22,.v 24 6,.x 25 2 23 24,.n 26 2 25,.w 2 4 26,.T 5])))) (.reg [.v 12 6,.h 13 .add 12 1,.v 6 13])))))) (.R [.q 27 (.bd [(.string (mk [])),(.slice none 0 0)] []),.w 2 4 27,.F 5]))
def aJG:List RV:=[.ld (.ldn 2 (.t 4)),.mv (.t 5)]
theorem aZN:aU Tryz.prog true ⟨fun _ _=>.own [],fun _=>false⟩ Tryz.f100=some (aM6,aJG):=by kernel_rfl
def aKF:PC:=.S [.z 2 50 0,.A 4 #[(.int .i64 0),(.string (mk [])),(.int .i64 0),(.int .i64 0),(.string (mk [])),(.slice none 0 0),(.bool false)] 47,.F 5] (.seq (.S [.c 6 0] (.block 0 (.loop (.seq (.S [.v 7 6,.f 8 1 2,.r 9 8,.m 10 9,.k 11 .lss 7 10] (.C 11 .skip (.exit 0))) (.seq (.block 1 (.S [.f 14 1 2,.r 15 14,.v 16 6,.x 17 7 15 16,.f 18 0 17,.r 19 18,.v 20 1,.k 21 .eql 19 20] (.I 21 (.R [.f 22 1 2,.r 23 22,.v 24 6,.x 25 7 23 24,.n 26 7 25,.w 7 4 26,.T 5])))) (.reg [.v 12 6,.h 13 .add 12 1,.v 6 13])))))) (.R [.q 27 (.bd [(.int .i64 0),(.string (mk [])),(.int .i64 0),(.int .i64 0),(.string (mk [])),(.slice none 0 0),(.bool false)] []),.w 7 4 27,.F 5]))
def aH7:List RV:=[.ld (.ldn 7 (.t 4)),.mv (.t 5)]
theorem aZI:aU Tryz.prog true ⟨fun _ _=>.own [],fun _=>false⟩ Tryz.f101=some (aKF,aH7):=by kernel_rfl
def aK7:PC:=.S [.z 2 25 0,.z 3 45 1,.F 4] (.R [.n 5 3 2,.n 6 4 3,.u 7 94 [kM,jZ],.v 4 7])
def aK8:List RV:=[.mv (.t 4)]
theorem aYW:aU Tryz.prog true ⟨fun r k=>if r=1/\k=2 then .q else .own [],fun _=>false⟩ Tryz.f141=some (aK7,aK8):=by kernel_rfl
def aIW:PC:=.S [.z 2 25 0,.A 4 #[(.string (mk [])),(.slice none 0 0),(.slice none 0 0)] 70,.F 5] (.seq (.S [.c 6 0] (.block 0 (.loop (.seq (.S [.v 7 6,.f 8 1 2,.r 9 8,.m 10 9,.k 11 .lss 7 10] (.C 11 .skip (.exit 0))) (.seq (.block 1 (.S [.f 14 1 2,.r 15 14,.v 16 6,.x 17 3 15 16,.f 18 0 17,.r 19 18,.v 20 1,.k 21 .eql 19 20] (.I 21 (.R [.f 22 1 2,.r 23 22,.v 24 6,.x 25 3 23 24,.n 26 3 25,.w 3 4 26,.T 5])))) (.reg [.v 12 6,.h 13 .add 12 1,.v 6 13])))))) (.R [.q 27 (.bd [(.string (mk [])),(.slice none 0 0),(.slice none 0 0)] []),.w 3 4 27,.F 5]))
def aJR:List RV:=[.ld (.ldn 3 (.t 4)),.mv (.t 5)]
theorem aZX:aU Tryz.prog true ⟨fun _ _=>.own [],fun _=>false⟩ Tryz.f143=some (aIW,aJR):=by kernel_rfl
def aM0:PC:=.S [.z 2 29 0,.A 4 gO 29,.F 5] (.seq (.S [.c 6 0] (.block 0 (.loop (.seq (.S [.v 7 6,.f 8 4 2,.r 9 8,.m 10 9,.k 11 .lss 7 10,.v 12 11,.Y 13 12 (.f 0 2),.Y 14 12 (.r 13),.Y 15 12 (.h .eql 14 6),.p 16 12 15] (.C 16 .skip (.exit 0))) (.seq (.block 1 (.S [.f 19 4 2,.r 20 19,.v 21 6,.x 22 6 20 21,.f 23 0 22,.r 24 23,.v 25 1,.k 26 .eql 24 25] (.I 26 (.R [.f 27 4 2,.r 28 27,.v 29 6,.x 30 6 28 29,.f 31 1 30,.n 32 5 31,.w 5 4 32,.T 5])))) (.reg [.v 17 6,.h 18 .add 17 1,.v 6 18])))))) (.R [.q 33 (.bd [(.int .i64 0),(.int .i64 0),(.string (mk [])),(.slice none 0 0),(.slice none 0 0)] []),.w 5 4 33,.F 5]))
def aKW:List RV:=[.ld (.ldn 5 (.t 4)),.mv (.t 5)]
theorem a0S:aU Tryz.prog true ⟨fun _ _=>.own [],fun _=>false⟩ Tryz.f171=some (aM0,aKW):=by kernel_rfl
def aU9:PC:=.S [.z 3 25 0,.z 5 29 2,.A 6 gO 29] (.seq (.S [.n 10 3 3,.v 11 1,.j 12 20 [jK,kJ],.v 9 12,.y 13 9 0,.y 14 9 1,.A 7 #[(.string (mk [])),(.slice none 0 0)] 50,.w 2 7 13,.v 8 14] (.S [.v 15 8,.t 16 15,.v 17 16,.N 18 17 (.n 3 3),.N 19 17 (.cq 19 [iV]),.N 20 17 (.h .neq 19 0),.o 21 17 20] (.I 21 (.R [.n 22 5 5,.w 5 6 22])))) (.R [.n 23 3 3,.v 24 1,.q 25 (.bd [(.int .i64 0),(.int .i64 0),(.string (mk [])),(.slice none 0 0)] [(0,1,(.i 6)),(2,1,kQ)]),.n 26 5 5,.j 27 59 [jP,kI,j7],.w 5 6 27]))
def aVC:List RV:=[.ld (.ldn 5 (.t 6))]
theorem bAI:aU Tryz.prog true ⟨fun r k=>if r=2/\k=4 then .q else .own [],fun _=>false⟩ Tryz.f23=some (aU9,aVC):=by kernel_rfl
def DJ:PC:=.seq (.gh (.reg [.v 86 13])) (.I 86 (.ord [.q (.f 87 4 7),.q (.r 88 87),.q (.f 89 4 5),.q (.r 90 89),.q (.v 91 11),.q (.x 92 6 90 91),.q (.f 93 0 92),.q (.r 94 93),.q (.n 95 3 3),.q (.f 96 2 12),.q (.n 97 4 96),.q (.f 98 4 5),.q (.r 99 98),.q (.v 100 11),.q (.x 101 6 99 100),.q (.f 102 1 101),.q (.n 103 5 102),.m (.j 104 59 [(.t 95),(.t 97),(.t 103)]),.rc (.f 87 4 7),.rc (.r 88 87),.rc (.f 89 4 5),.rc (.r 90 89),.rc (.v 91 11),.rc (.x 92 6 90 91),.rc (.f 93 0 92),.rc (.r 94 93),.q (.q 105 (.bd [(.int .i64 0),(.int .i64 0),(.int .i64 0),(.string (mk [])),(.slice none 0 0),(.slice none 0 0)] [(0,1,(.t 94)),(1,5,(.t 104))])),.m (.e 106 (.bsl 42 6 [(.t 105)])),.rc (.f 87 4 7),.rc (.r 88 87),.m (.e 107 (.ap 42 6 88 (.t 88) (.t 106))),.q (.f 108 4 7),.m (.w 1 108 107)]))
@[go_sem ↓] theorem a3X:a7 DJ:=a8 _
def KL:PC:=.S [.z 3 25 0,.z 4 45 1,.z 5 29 2,.A 6 gO 29] (.seq (.S [.f 14 0 5,.r 15 14,.f 16 0 4,.r 17 16,.k 18 .neq 15 17] (.I 18 (.R [.n 19 5 5,.w 5 6 19]))) (.S [.n 20 5 5,.A 7 gO 29,.w 5 7 20] (.seq (.S [.f 21 0 4,.r 22 21,.h 23 .eql 22 5,.v 24 23,.Y 25 24 (.f 3 4),.Y 26 24 (.r 25),.Y 27 24 (.m 26),.Y 28 24 (.h .eql 27 1),.p 29 24 28] (.I 29 (.S [.f 30 3 7,.s (.st 1 oO gH)] (.S [.c 8 0] (.block 0 (.loop (.seq (.S [.v 31 8,.f 32 3 5,.r 33 32,.m 34 33,.k 35 .lss 31 34] (.C 35 .skip (.exit 0))) (.seq (.block 1 (.ord [.q (.f 38 3 7),.q (.r 39 38),.q (.n 40 3 3),.q (.f 41 3 4),.q (.r 42 41),.q (.l 43 (.ia 4 tP gZ)),.q (.n 44 4 43),.q (.f 45 3 5),.q (.r 46 45),.q (.v 47 8),.q (.x 48 5 46 47),.q (.n 49 5 48),.m (.j 50 59 [nL,m7,pX]),.rc (.f 38 3 7),.rc (.r 39 38),.m (.e 51 (.bsl 29 5 [oP])),.rc (.f 38 3 7),.rc (.r 39 38),.m (.e 52 (.ap 29 5 80 kY (.t 51))),.q (.f 53 3 7),.m (.w 1 53 52)])) (.reg [.v 36 8,.h 37 .add 36 1,.v 8 37]))))))))) (.seq (.S [.f 54 0 4,.r 55 54,.h 56 .eql 55 6] (.I 56 (.S [.n 58 3 3,.f 59 2 4,.r 60 59,.j 61 20 [(.t 58),sA],.v 57 61,.y 62 57 0,.y 63 57 1,.A 9 #[(.string (mk [])),(.slice none 0 0)] 50,.w 2 9 62,.v 10 63] (.seq (.S [.v 64 10,.t 65 64] (.I 65 (.R [.n 66 5 5,.w 5 6 66]))) (.S [.f 67 4 7,.s (.st 1 AU gH)] (.S [.c 11 0] (.block 2 (.loop (.seq (.S [.v 68 11,.f 69 4 5,.r 70 69,.m 71 70,.k 72 .lss 68 71] (.C 72 .skip (.exit 2))) (.seq (.block 3 (.seq (.ord [.q (.n 76 2 9),.q (.f 77 4 5),.q (.r 78 77),.q (.v 79 11),.q (.x 80 6 78 79),.q (.f 81 0 80),.q (.r 82 81),.m (.j 83 105 [(.t 76),(.t 82)]),.q (.v 75 83),.q (.y 84 75 0),.q (.y 85 75 1),.m (.A 12 #[(.int .i64 0),(.string (mk [])),(.int .i64 0),(.int .i64 0),(.string (mk [])),(.slice none 0 0),(.bool false)] 47),.rc (.v 75 83),.rc (.y 84 75 0),.rc (.y 85 75 1),.m (.w 7 12 84),.rc (.y 85 75 1),.m (.v 13 85)]) DJ)) (.reg [.v 73 11,.h 74 .add 73 1,.v 11 74]))))))))))) (.R [.n 109 5 7,.w 5 6 109])))))
def KG:List RV:=[.ld (.ldn 5 (.t 6))]
theorem a9G:aU Tryz.prog true ⟨fun _ _=>.own [],fun r=>[19].contains r⟩ Tryz.f59=some (KL,KG):=by kernel_rfl
def sX (a b:Int):Int:=bif decide (a<b) then -1 else bif decide (b<a) then 1 else 0
theorem TV (a:Int):sX a a=0:=by unfold sX;simp
def PK:List S->Prop:=fun av=>match av with
 |[.va (.c1 (.vl (.int .i64 _))),.va (.c1 (.vl (.int .i64 _)))]=>True
 |_=>False
theorem p5 {av:List S} (h:PK av):∃a b:Int,av=[iS .i64 a,iS .i64 b]:=by
 unfold PK at h
 split at h
 · exact ⟨_,_,rfl⟩
 · exact h.elim
def aJS:List S->A:=fun av=>match av with
 |[.va (.c1 (.vl (.int _ a))),.va (.c1 (.vl (.int _ b)))]=>iA .i64 (sX a b)
 |_=>.gs []
def sgFn:Fun:=⟨PK,aJS,fun av h=>by obtain ⟨a,b,rfl⟩:=p5 h;trivial⟩
theorem G6:∀av H K,sgFn.sp av H K->av.length=2:=fun av H K h=>by obtain ⟨a,b,rfl⟩:=p5 h.1.1;rfl
attribute [go_sem] sgFn PK aJS
theorem aKI:Meets Tryz.prog 60 sgFn.sp:=by
 refine aF Tryz.func60 a7A 2 (by rw[Tryz.ntmps60];decide) (aB _) G6 ?_
 rintro av H K ⟨⟨h,rfl⟩,hK⟩
 obtain ⟨a,b,rfl⟩:=p5 h
 have hK:K (iS .i64 (sX a b)) []:=hK
 clear h
 unfold sX at hK
 simp(maxSteps:=9^6)-dsimp only[go_sem,aU8,aUQ]
 refine ⟨fun h1=>?_,fun h1=>⟨fun h2=>?_,fun h2=>?_⟩⟩
 · rw[h1] at hK;exact .done hK
 · rw[h1,h2] at hK;exact .done hK
 · rw[h1,h2] at hK;exact .done hK
def HZ:List S->Prop:=fun av=>match av with
 |[.va (.c1 (.vl (.string a))),.va (.c1 (.vl (.string b)))]=>a=b/\a.size<=9223372036854775807
 |_=>False
theorem FD {av:List S} (h:HZ av):∃a:ByteArray,av=[tS a,tS a]/\a.size<=9223372036854775807:=by
 unfold HZ at h
 split at h
 · obtain ⟨rfl,h⟩:=h;exact ⟨_,rfl,h⟩
 · exact h.elim
def ordFn:Fun:=⟨HZ,fun _=>iA .i64 0,fun _ _=>trivial⟩
theorem aCM:∀av H K,ordFn.sp av H K->av.length=2:=fun av H K h=>by obtain ⟨a,rfl,_⟩:=FD h.1.1;rfl
attribute [go_sem] ordFn HZ
theorem aTV:Meets Tryz.prog 61 ordFn.sp:=by
 refine aF Tryz.func61 a9H 2 (by rw[Tryz.ntmps61];decide) (aG aKI (aB _)) aCM ?_
 rintro av H K ⟨⟨h,rfl⟩,hK⟩
 obtain ⟨a,rfl,hs⟩:=FD h
 have hK:K (iS .i64 0) []:=hK
 clear h
 rw[jA] at hs
 simp(maxSteps:=9^6)-dsimp only[go_sem,aW3,aQL]
 refine aO (α:=Nat) (fun i=>[(0,tS a),(1,tS a),(5,iS .i64 i)]) (fun _=>[])
  (fun i=>i<=(bl a).length) (fun i=>(bl a).length-i) 0 0 (aP _) ?_ ?_ ?_
 · simp -dsimp only[go_sem]<;>simp
 · simp -dsimp only[go_sem]<;>simp
 intro i hi
 rcases bB i (bl a).length with hlt|hge
 · have hg:decide ((i:Int)<((bl a).length:Int))=true:=by simp;omega
   obtain ⟨c,hc⟩:∃c,(bl a)[i]? = some c:=⟨_,aX hlt⟩
   have hcc:decide ((c.toNat:Int)<(c.toNat:Int))=false:=by simp
   simp(maxSteps:=9^6)-dsimp only[go_sem,hg,hc,aM,forall_eq',hcc]
   refine ⟨by omega,by omega,by omega,by omega,by omega,aC (i+1) 0 (by omega) (by omega) ?_ ?_⟩
   · simp -dsimp only[go_sem]<;>simp
   · simp -dsimp only[go_sem]<;>simp
 · have hg:decide ((i:Int)<((bl a).length:Int))=false:=by simp;omega
   obtain rfl:i=(bl a).length:=by omega
   simp(maxSteps:=9^6)-dsimp only[go_sem,hg,TV]
   exact .done hK
def OY (N:Nat):List S->Prop:=fun av=>match av with
 |[.va (.gs r),.va (.gs q)]=>r=q/\qH r/\(C.vv r).h<=N
 |_=>False
theorem zV {N:Nat} {av:List S} (h:OY N av):∃v,av=[.va (.gs (aW v)),.va (.gs (aW v))]/\VlOk v/\v.h<=N:=by
 unfold OY at h
 split at h
 · obtain ⟨rfl,⟨v,rfl,hv⟩,h⟩:=h
   rw[jL] at h
   exact ⟨v,rfl,hv,h⟩
 · exact h.elim
def aF4:List S->A:=fun _=>iA .i64 0
noncomputable def aFD (N:Nat):Fun:=⟨OY N,aF4,fun _ _=>trivial⟩
theorem aEC {N:Nat}:∀av H K,(aFD N).sp av H K->av.length=2:=fun av H K h=>by obtain ⟨v,rfl,_⟩:=zV h.1.1;rfl
attribute [go_sem] aFD OY aF4
def bO (v:Vl):List C:=[.vl (.int .i64 v.k),.vl (.int .i64 v.n),.vl (.string v.s),.fz (v.l.map aW),.fz (v.f.map bG)]
theorem sC {l:List Vl} {i:Nat} {x:Vl} (h:l[i]? = some x) (p:List C->Prop):(∀r,(l.map aW)[((i:Nat):Int).toNat]? = some r->p r)=p [.vl (.int .i64 x.k),.vl (.int .i64 x.n),.vl (.string x.s),.fz (x.l.map aW),.fz (x.f.map bG)]:=by
 rw[<-aJ];exact aS (row:=aW) h p
theorem kZ {l:List (Int×Vl)} {i:Nat} {x:Int×Vl} (h:l[i]? = some x) (p:List C->Prop):(∀r,(l.map bG)[((i:Nat):Int).toNat]? = some r->p r)=p [.vl (.int .i64 x.1),.vl (.int .i64 x.2.k),.vl (.int .i64 x.2.n),.vl (.string x.2.s),.fz (x.2.l.map aW),.fz (x.2.f.map bG)]:=by
 rw[<-l9];exact aS (row:=bG) h p
theorem dE {v:Vl} (h:VlOk v):qH [.vl (.int .i64 v.k),.vl (.int .i64 v.n),.vl (.string v.s),.fz (v.l.map aW),.fz (v.f.map bG)]:=by rw[<-aJ];exact D4 h
theorem fV (v:Vl):C.vv [.vl (.int .i64 v.k),.vl (.int .i64 v.n),.vl (.string v.s),.fz (v.l.map aW),.fz (v.f.map bG)]=v:=by rw[<-aJ,jL]
theorem NL:∀N,Meets Tryz.prog 24 (aFD N).sp
 |0=>⟨by kernel_rfl,by rintro xs vs E ro w K _ _ _ ⟨⟨h,_⟩,_⟩;obtain ⟨v,_,_,h⟩:=zV h;have:=v.h_pos;omega⟩
 |N+1=>by
  refine aF Tryz.func24 a6X 2 (by rw[Tryz.ntmps24];decide) (aG (NL N) (aG aKI (aG aTV (aB _)))) aEC ?_
  rintro av H K ⟨⟨h,rfl⟩,hK⟩
  obtain ⟨v,rfl,hv,hh⟩:=zV h
  have hK:K (iS .i64 0) []:=hK
  clear h
  have fin:∀R:Hp,W.Fin 0 K (iS .i64 0) R:=fun R=>.z ((by simpa[go_sem] using hK))
  have hll:=hv.ll
  have hlf:=hv.lf
  have hs:=hv.s
  have h0:decide (v.n<v.n)=false:=by simp
  simp(maxSteps:=9^6)-dsimp only[go_sem,aJ v,aWY,aV0,bne_self_eq_false,h0,hs]
  refine aO (α:=Nat) (fun i=>[(2,.va (.c1 (.pt 0 0))),(3,.va (.c1 (.pt 1 0))),(6,iS .i64 i)]) (fun _=>[.cells (bO v) 29,.cells (bO v) 29])
   (fun i=>i<=v.l.length) (fun i=>v.l.length-i) 0 2 (aP _) ?_ ?_ ?_
  · simp -dsimp only[go_sem]<;>simp
  · simp -dsimp only[go_sem,bO]<;>simp
  intro i hi
  rcases bB i v.l.length with hlt|hge
  · have hg:decide ((i:Int)<(v.l.length:Int))=true:=by simp;omega
    obtain ⟨x,hx⟩:∃t,v.l[i]? = some t:=⟨_,aX hlt⟩
    have q1:=sC hx
    have hxm:=cC hx
    have k1:=dE (hv.l x hxm)
    have k2:=fV x
    have k3:x.h<=N:=by have:=Vl.h_l hxm;omega
    simp(maxSteps:=9^6)-dsimp only[go_sem,hg,↓q1,bO,k1,k2,k3,bne_self_eq_false]
    refine ⟨by omega,by omega,by omega,aC (i+1) 2 (by omega) (by omega) ?_ ?_⟩
    · simp -dsimp only[go_sem]<;>simp
    · simp -dsimp only[go_sem,bO]<;>simp[bO]
  · have hg:decide ((i:Int)<(v.l.length:Int))=false:=by simp;omega
    obtain rfl:i=v.l.length:=by omega
    simp(maxSteps:=9^6)-dsimp only[go_sem,hg,bO,bne_self_eq_false]
    clear hi hge hg
    refine aO (α:=Nat) (fun i=>[(2,.va (.c1 (.pt 0 0))),(3,.va (.c1 (.pt 1 0))),(8,iS .i64 i)]) (fun _=>[.cells (bO v) 29,.cells (bO v) 29])
     (fun i=>i<=v.f.length) (fun i=>v.f.length-i) 0 2 (aP _) ?_ ?_ ?_
    · simp -dsimp only[go_sem]<;>simp
    · simp -dsimp only[go_sem,bO]<;>simp
    intro i hi
    rcases bB i v.f.length with hlt|hge
    · have hg:decide ((i:Int)<(v.f.length:Int))=true:=by simp;omega
      obtain ⟨x,hx⟩:∃t,v.f[i]? = some t:=⟨_,aX hlt⟩
      have q1:=kZ hx
      have hxm:=cC hx
      have k1:=dE (hv.f x hxm)
      have k2:=fV x.2
      have k3:x.2.h<=N:=by have:=Vl.h_f hxm;omega
      simp(maxSteps:=9^6)-dsimp only[go_sem,hg,↓q1,bO,k1,k2,k3,bne_self_eq_false]
      and_intros
      all_goals first
       |omega
       |skip
      refine aC (i+1) 2 (by omega) (by omega) ?_ ?_
      · simp -dsimp only[go_sem]<;>simp
      · simp -dsimp only[go_sem,bO]<;>simp[bO]
    · have hg:decide ((i:Int)<(v.f.length:Int))=false:=by simp;omega
      obtain rfl:i=v.f.length:=by omega
      simp(maxSteps:=9^6)-dsimp only[go_sem,hg,bO,TV]
      exact fin _
def CA:List S->Prop:=fun av=>match av with
 |[.va (.gs r),.va (.gs q)]=>r=q/\qH r
 |_=>False
theorem xD {av:List S} (h:CA av):∃v,av=[.va (.gs (aW v)),.va (.gs (aW v))]/\VlOk v:=by
 unfold CA at h
 split at h
 · obtain ⟨rfl,v,rfl,hv⟩:=h;exact ⟨v,rfl,hv⟩
 · exact h.elim
noncomputable def ceFn:Fun:=⟨CA,aF4,fun _ _=>trivial⟩
theorem aBS:Meets Tryz.prog 24 ceFn.sp:=dB 0 NL fun av H K ⟨⟨h,e⟩,hK⟩=>by
 obtain ⟨v,rfl,hv⟩:=xD h
 exact ⟨v.h,⟨⟨⟨rfl,D4 hv,by rw[jL];exact bE _⟩,e⟩,hK⟩⟩
noncomputable def eqFn:Fun:=⟨CA,fun _=>bA true,fun _ _=>trivial⟩
theorem aFO:∀av H K,eqFn.sp av H K->av.length=2:=fun av H K h=>by obtain ⟨v,rfl,_⟩:=xD h.1.1;rfl
attribute [go_sem] ceFn eqFn CA
theorem aOV:Meets Tryz.prog 9 eqFn.sp:=by
 refine aF Tryz.func9 ok9 2 (by rw[Tryz.ntmps9];decide) (aG aBS (aB _)) aFO ?_
 rintro av H K ⟨⟨h,rfl⟩,hK⟩
 obtain ⟨v,rfl,hv⟩:=xD h
 have hK:K (bS true) []:=hK
 clear h
 have k1:=dE hv
 simp(maxSteps:=9^6)-dsimp only[go_sem,aJ v,pc9,rs9,k1]
 exact .z ((by simpa[go_sem] using hK))
mutual
def C0:Vl->Int
 |.mk _ _ _ l f=>FM (P8 1 l) f
def P8:Int->List Vl->Int
 |a,[]=>a
 |a,v::r=>P8 (IntKind.i64.wrap (a+C0 v)) r
def FM:Int->List (Int×Vl)->Int
 |a,[]=>a
 |a,(_,v)::r=>FM (IntKind.i64.wrap (a+C0 v)) r
end
theorem aRK (v:Vl):C0 v=FM (P8 1 v.l) v.f:=by cases v;rw[C0];rfl
theorem aGB (a:Int) (x:Int×Vl) (r:List (Int×Vl)):FM a (x::r)=FM (IntKind.i64.wrap (a+C0 x.2)) r:=by cases x;rw[FM]
theorem WX {n:Int} (h1:-9223372036854775808<=n) (h2:n<=9223372036854775807):IntKind.i64.wrap n=n:=AC (aL2 h1 h2)
def PD (N:Nat):List S->Prop:=fun av=>match av with
 |[.va (.gs r)]=>qH r/\(C.vv r).h<=N
 |_=>False
theorem tX {N:Nat} {av:List S} (h:PD N av):∃v,av=[.va (.gs (aW v))]/\VlOk v/\v.h<=N:=by
 unfold PD at h
 split at h
 · obtain ⟨⟨v,rfl,hv⟩,h⟩:=h
   rw[jL] at h
   exact ⟨v,rfl,hv,h⟩
 · exact h.elim
noncomputable def XR:List S->A:=fun av=>match av with
 |[.va (.gs r)]=>iA .i64 (C0 (C.vv r))
 |_=>.gs []
noncomputable def XT (N:Nat):Fun:=⟨PD N,XR,fun av h=>by obtain ⟨v,rfl,_⟩:=tX h;trivial⟩
theorem aFH {N:Nat}:∀av H K,(XT N).sp av H K->av.length=1:=fun av H K h=>by obtain ⟨v,rfl,_⟩:=tX h.1.1;rfl
attribute [go_sem] XT PD XR
theorem aBM:∀N,Meets Tryz.prog 5 (XT N).sp
 |0=>⟨by kernel_rfl,by rintro xs vs E ro w K _ _ _ ⟨⟨h,_⟩,_⟩;obtain ⟨v,_,_,h⟩:=tX h;have:=v.h_pos;omega⟩
 |N+1=>by
  refine aF Tryz.func5 ok5 1 (by rw[Tryz.ntmps5];decide) (aG (aBM N) (aB _)) aFH ?_
  rintro av H K ⟨⟨h,rfl⟩,hK⟩
  obtain ⟨v,rfl,hv,hh⟩:=tX h
  have hK:K (iS .i64 (C0 v)) []:=by
   have:(XT (N+1)).val [.va (.gs (aW v))]=iA .i64 (C0 v):=by simp -dsimp only[go_sem]
   rw[this] at hK;exact hK
  clear h
  rw[aRK] at hK
  generalize hX:FM (P8 1 v.l) v.f=X at hK
  have hll:=hv.ll
  have hlf:=hv.lf
  simp(maxSteps:=9^6)-dsimp only[go_sem,aJ v,pc5,rs5]
  refine aO (α:=Nat×Int) (fun z=>[(1,.va (.c1 (.pt 0 0))),(3,iS .i64 z.2),(4,iS .i64 z.1)]) (fun _=>[.cells (bO v) 29])
   (fun z=>z.1<=v.l.length/\FM (P8 z.2 (v.l.drop z.1)) v.f=X) (fun z=>v.l.length-z.1) (0,1) 1 ⟨aP _,hX⟩ ?_ ?_ ?_
  · simp -dsimp only[go_sem]<;>simp
  · simp -dsimp only[go_sem,bO]<;>simp
  clear hX
  rintro ⟨i,a⟩ ⟨hi,ho⟩
  simp only at hi ho ⊢
  rcases bB i v.l.length with hlt|hge
  · have hg:decide ((i:Int)<(v.l.length:Int))=true:=by simp;omega
    obtain ⟨x,hx⟩:∃t,v.l[i]? = some t:=⟨_,aX hlt⟩
    have q1:=sC hx
    have hxm:=cC hx
    have k1:=dE (hv.l x hxm)
    have k2:=fV x
    have k3:x.h<=N:=by have:=Vl.h_l hxm;omega
    have hw:IntKind.i64.wrap ((i:Int)+1)=(i:Int)+1:=WX (by omega) (by omega)
    have hdr:v.l.drop i=x::v.l.drop (i+1):=by
     obtain ⟨h,rfl⟩:=bT.1 hx
     exact cG h
    rw[hdr,P8] at ho
    simp(maxSteps:=9^6)-dsimp only[go_sem,hg,↓q1,bO,k1,k2,k3,hw]
    refine ⟨by omega,aC (i+1,IntKind.i64.wrap (a+C0 x)) 1 ⟨by simp only;omega,ho⟩ (by simp only;omega) ?_ ?_⟩
    · simp -dsimp only[go_sem]<;>simp
    · simp -dsimp only[go_sem,bO]<;>simp[bO]
  · have hg:decide ((i:Int)<(v.l.length:Int))=false:=by simp;omega
    obtain rfl:i=v.l.length:=by omega
    rw[dT,P8] at ho
    simp(maxSteps:=9^6)-dsimp only[go_sem,hg,bO]
    clear hi hge hg
    refine aO (α:=Nat×Int) (fun z=>[(1,.va (.c1 (.pt 0 0))),(3,iS .i64 z.2),(5,iS .i64 z.1)]) (fun _=>[.cells (bO v) 29])
     (fun z=>z.1<=v.f.length/\FM z.2 (v.f.drop z.1)=X) (fun z=>v.f.length-z.1) (0,a) 1 ⟨aP _,ho⟩ ?_ ?_ ?_
    · simp -dsimp only[go_sem]<;>simp
    · simp -dsimp only[go_sem,bO]<;>simp
    clear ho
    rintro ⟨i,a⟩ ⟨hi,ho⟩
    simp only at hi ho ⊢
    rcases bB i v.f.length with hlt|hge
    · have hg:decide ((i:Int)<(v.f.length:Int))=true:=by simp;omega
      obtain ⟨x,hx⟩:∃t,v.f[i]? = some t:=⟨_,aX hlt⟩
      have q1:=kZ hx
      have hxm:=cC hx
      have k1:=dE (hv.f x hxm)
      have k2:=fV x.2
      have k3:x.2.h<=N:=by have:=Vl.h_f hxm;omega
      have hw:IntKind.i64.wrap ((i:Int)+1)=(i:Int)+1:=WX (by omega) (by omega)
      have hdr:v.f.drop i=x::v.f.drop (i+1):=by
       obtain ⟨h,rfl⟩:=bT.1 hx
       exact cG h
      rw[hdr,aGB] at ho
      simp(maxSteps:=9^6)-dsimp only[go_sem,hg,↓q1,bO,k1,k2,k3,hw]
      refine ⟨by omega,aC (i+1,IntKind.i64.wrap (a+C0 x.2)) 1 ⟨by simp only;omega,ho⟩ (by simp only;omega) ?_ ?_⟩
      · simp -dsimp only[go_sem]<;>simp
      · simp -dsimp only[go_sem,bO]<;>simp[bO]
    · have hg:decide ((i:Int)<(v.f.length:Int))=false:=by simp;omega
      obtain rfl:i=v.f.length:=by omega
      rw[dT,FM] at ho
      subst ho
      simp(maxSteps:=9^6)-dsimp only[go_sem,hg,bO]
      exact .z ((by simpa[go_sem] using hK))
def aAZ:List S->Prop:=QT qH
noncomputable def svFn':Fun:=⟨aAZ,XR,fun av h=>by obtain ⟨r,rfl,v,rfl,_⟩:=fR h;trivial⟩
attribute [go_sem] svFn' aAZ
theorem aRH:Meets Tryz.prog 5 svFn'.sp:=dB 0 aBM fun av H K ⟨⟨h,e⟩,hK⟩=>by
 obtain ⟨r,rfl,v,rfl,hv⟩:=fR h
 exact ⟨v.h,⟨⟨⟨D4 hv,by rw[jL];exact bE _⟩,e⟩,hK⟩⟩
theorem G1:Meets Tryz.prog 92 (DQ fun l=>.bool (eP l)).sp:=by
 refine aF Tryz.func92 a97 1 (by rw[Tryz.ntmps92];decide) (aB _) wZ ?_
 rintro xs H K ⟨⟨h,rfl⟩,hK⟩
 obtain ⟨s,rfl⟩:=mA h
 simp -dsimp only[go_sem,aVX,aRX] at hK ⊢
 refine ⟨fun h1=>?_,fun h1=>?_⟩
 · refine jG hK ?_
   have:eP (bl s)=false:=by
    simp at h1
    rcases h1 with h1|h1
    · have:bl s=[]:=T7.1 (by omega)
      rw[this];rfl
    · exact CT (by omega)
   rw[this]
 · have hlen:0<(bl s).length/\(bl s).length<=16:=by simp at h1;omega
   obtain ⟨hl0,hl⟩:=hlen
   refine aO (α:=Nat) (fun i=>[(0,tS s),(3,iS .i64 i)]) (fun i=>[]) (fun i=>i<=(bl s).length/\(∀(j:Nat) (x:UInt8),j<i->(bl s)[j]? = some x->dQ x=true)/\(0<i->∀x,(bl s)[0]? = some x->dY x.toNat=true)) (fun i=>(bl s).length-i) 0 0 ⟨by omega,by omega,by omega⟩ ?_ ?_ ?_
   · simp -dsimp only[go_sem];simp
   · simp[go_sem]
   rintro i ⟨hi,ha,hb⟩
   rcases bB i (bl s).length with hlt|hge
   · have hg:decide ((i:Int)<((bl s).length:Int))=true:=by simp;omega
     obtain ⟨c,hc⟩:∃c,(bl s)[i]? = some c:=⟨_,aX hlt⟩
     have bad:(i=0/\dY c.toNat=false)\/dQ c=false->W.Fin 0 K (bS false) []:=fun h=>jG hK (by
      rcases h with ⟨rfl,h⟩|h
      · rw[HV hc h]
      · rw[WM hc h])
     have fW:dQ c=true->(i=0->dY c.toNat=true)->(i+1<=(bl s).length/\(∀(j:Nat) (x:UInt8),j<i+1->(bl s)[j]? = some x->dQ x=true)/\(0<i+1->∀x,(bl s)[0]? = some x->dY x.toNat=true)):=fun h1 h2=>⟨by omega,fun j x hj hx=>by
      rcases bB j i with h4|h4
      · exact ha j x h4 hx
      · obtain rfl:j=i:=by omega
        rw[hc] at hx;obtain rfl:=dV hx;exact h1,fun _ x hx=>by
      rcases gK i with h0|h0
      · subst h0;rw[hc] at hx;obtain rfl:=dV hx;exact h2 rfl
      · exact hb h0 x hx⟩
     have hb255:=c.toNat_lt
     have hcs:(0<=(c.toNat:Int)/\(c.toNat:Int)<=47)\/(48<=(c.toNat:Int)/\(c.toNat:Int)<=57)\/(58<=(c.toNat:Int)/\(c.toNat:Int)<=64)\/(65<=(c.toNat:Int)/\(c.toNat:Int)<=90)\/(91<=(c.toNat:Int)/\(c.toNat:Int)<=94)\/(95<=(c.toNat:Int)/\(c.toNat:Int)<=95)\/(96<=(c.toNat:Int)/\(c.toNat:Int)<=96)\/(97<=(c.toNat:Int)/\(c.toNat:Int)<=122)\/(123<=(c.toNat:Int)/\(c.toNat:Int)<=255):=by omega
     rcases hcs with h2|h2|h2|h2|h2|h2|h2|h2|h2
     · have d1:decide (97<=(c.toNat:Int))=false:=dP (by omega)
       have d2:decide ((c.toNat:Int)<=122)=true:=eE (by omega)
       have d3:decide (65<=(c.toNat:Int))=false:=dP (by omega)
       have d4:decide ((c.toNat:Int)<=90)=true:=eE (by omega)
       have d5:((c.toNat:Int)==95)=false:=by simp;omega
       have d6:decide (48<=(c.toNat:Int))=false:=dP (by omega)
       have d7:decide ((c.toNat:Int)<=57)=true:=eE (by omega)
       have hL:dY c.toNat=false:=by unfold dY;rw[d1,d2,d3,d4];rfl
       have hW:dQ c=false:=by unfold dQ oB nI;rw[hL,d5,d6,d7];rfl
       rcases gK i with h0|h0
       · have hz:((i:Int)==0)=true:=by simp;omega
         simp(maxSteps:=9^6)-dsimp only[go_sem,hg,hc,aM,forall_eq',cP,d1,d3,d5,d6,hz,bF,eZ,bL,dF,bN,bV]
         repeat' first|intro _|apply And.intro
         all_goals first|omega|(rename_i h9;simp at h9;done)|skip
         all_goals exact bad (by rw[hL,hW];exact .inl ⟨h0,rfl⟩)
       · have hz:((i:Int)==0)=false:=by simp;omega
         simp(maxSteps:=9^6)-dsimp only[go_sem,hg,hc,aM,forall_eq',cP,d1,d3,d5,d6,hz,bF,eZ,bL,bV]
         repeat' first|intro _|apply And.intro
         all_goals first|omega|(rename_i h9;simp at h9;done)|skip
         all_goals exact bad (by rw[hL,hW];exact .inr rfl)
     · have d1:decide (97<=(c.toNat:Int))=false:=dP (by omega)
       have d2:decide ((c.toNat:Int)<=122)=true:=eE (by omega)
       have d3:decide (65<=(c.toNat:Int))=false:=dP (by omega)
       have d4:decide ((c.toNat:Int)<=90)=true:=eE (by omega)
       have d5:((c.toNat:Int)==95)=false:=by simp;omega
       have d6:decide (48<=(c.toNat:Int))=true:=eE (by omega)
       have d7:decide ((c.toNat:Int)<=57)=true:=eE (by omega)
       have hL:dY c.toNat=false:=by unfold dY;rw[d1,d2,d3,d4];rfl
       have hW:dQ c=true:=by unfold dQ oB nI;rw[hL,d5,d6,d7];rfl
       rcases gK i with h0|h0
       · have hz:((i:Int)==0)=true:=by simp;omega
         simp(maxSteps:=9^6)-dsimp only[go_sem,hg,hc,aM,forall_eq',cP,d1,d3,d5,d6,hz,bF,eZ,bL,dF,bN,bV]
         repeat' first|intro _|apply And.intro
         all_goals first|omega|(rename_i h9;simp at h9;done)|skip
         all_goals exact bad (by rw[hL,hW];exact .inl ⟨h0,rfl⟩)
       · have hz:((i:Int)==0)=false:=by simp;omega
         simp(maxSteps:=9^6)-dsimp only[go_sem,hg,hc,aM,forall_eq',cP,d1,d3,d5,d6,d7,hz,bF,eZ,bL,bV]
         repeat' first|intro _|apply And.intro
         all_goals first|omega|(rename_i h9;simp at h9;done)|skip
         all_goals exact aC (i+1) 0 (fW (by rw[hW]) (fun h3=>by omega)) (by omega) (by simp -dsimp only[go_sem];simp) (by simp[go_sem])
     · have d1:decide (97<=(c.toNat:Int))=false:=dP (by omega)
       have d2:decide ((c.toNat:Int)<=122)=true:=eE (by omega)
       have d3:decide (65<=(c.toNat:Int))=false:=dP (by omega)
       have d4:decide ((c.toNat:Int)<=90)=true:=eE (by omega)
       have d5:((c.toNat:Int)==95)=false:=by simp;omega
       have d6:decide (48<=(c.toNat:Int))=true:=eE (by omega)
       have d7:decide ((c.toNat:Int)<=57)=false:=dP (by omega)
       have hL:dY c.toNat=false:=by unfold dY;rw[d1,d2,d3,d4];rfl
       have hW:dQ c=false:=by unfold dQ oB nI;rw[hL,d5,d6,d7];rfl
       rcases gK i with h0|h0
       · have hz:((i:Int)==0)=true:=by simp;omega
         simp(maxSteps:=9^6)-dsimp only[go_sem,hg,hc,aM,forall_eq',cP,d1,d3,d5,d6,hz,bF,eZ,bL,dF,bN,bV]
         repeat' first|intro _|apply And.intro
         all_goals first|omega|(rename_i h9;simp at h9;done)|skip
         all_goals exact bad (by rw[hL,hW];exact .inl ⟨h0,rfl⟩)
       · have hz:((i:Int)==0)=false:=by simp;omega
         simp(maxSteps:=9^6)-dsimp only[go_sem,hg,hc,aM,forall_eq',cP,d1,d3,d5,d6,d7,hz,bF,eZ,bL,bV]
         repeat' first|intro _|apply And.intro
         all_goals first|omega|(rename_i h9;simp at h9;done)|skip
         all_goals exact bad (by rw[hL,hW];exact .inr rfl)
     · have d1:decide (97<=(c.toNat:Int))=false:=dP (by omega)
       have d2:decide ((c.toNat:Int)<=122)=true:=eE (by omega)
       have d3:decide (65<=(c.toNat:Int))=true:=eE (by omega)
       have d4:decide ((c.toNat:Int)<=90)=true:=eE (by omega)
       have d5:((c.toNat:Int)==95)=false:=by simp;omega
       have d6:decide (48<=(c.toNat:Int))=true:=eE (by omega)
       have d7:decide ((c.toNat:Int)<=57)=false:=dP (by omega)
       have hL:dY c.toNat=true:=by unfold dY;rw[d1,d2,d3,d4];rfl
       have hW:dQ c=true:=by unfold dQ oB nI;rw[hL,d5,d6,d7];rfl
       rcases gK i with h0|h0
       · have hz:((i:Int)==0)=true:=by simp;omega
         simp(maxSteps:=9^6)-dsimp only[go_sem,hg,hc,aM,forall_eq',cP,d1,d3,d4,d5,d6,hz,bF,eZ,bL,dF,bN,bV]
         repeat' first|intro _|apply And.intro
         all_goals first|omega|(rename_i h9;simp at h9;done)|skip
         all_goals exact aC (i+1) 0 (fW (by rw[hW]) (fun h3=>by rw[hL])) (by omega) (by simp -dsimp only[go_sem];simp) (by simp[go_sem])
       · have hz:((i:Int)==0)=false:=by simp;omega
         simp(maxSteps:=9^6)-dsimp only[go_sem,hg,hc,aM,forall_eq',cP,d1,d3,d4,d5,d6,d7,hz,bF,eZ,bL,bV]
         repeat' first|intro _|apply And.intro
         all_goals first|omega|(rename_i h9;simp at h9;done)|skip
         all_goals exact aC (i+1) 0 (fW (by rw[hW]) (fun h3=>by rw[hL])) (by omega) (by simp -dsimp only[go_sem];simp) (by simp[go_sem])
     · have d1:decide (97<=(c.toNat:Int))=false:=dP (by omega)
       have d2:decide ((c.toNat:Int)<=122)=true:=eE (by omega)
       have d3:decide (65<=(c.toNat:Int))=true:=eE (by omega)
       have d4:decide ((c.toNat:Int)<=90)=false:=dP (by omega)
       have d5:((c.toNat:Int)==95)=false:=by simp;omega
       have d6:decide (48<=(c.toNat:Int))=true:=eE (by omega)
       have d7:decide ((c.toNat:Int)<=57)=false:=dP (by omega)
       have hL:dY c.toNat=false:=by unfold dY;rw[d1,d2,d3,d4];rfl
       have hW:dQ c=false:=by unfold dQ oB nI;rw[hL,d5,d6,d7];rfl
       rcases gK i with h0|h0
       · have hz:((i:Int)==0)=true:=by simp;omega
         simp(maxSteps:=9^6)-dsimp only[go_sem,hg,hc,aM,forall_eq',cP,d1,d3,d4,d5,d6,hz,bF,eZ,bL,dF,bN,bV]
         repeat' first|intro _|apply And.intro
         all_goals first|omega|(rename_i h9;simp at h9;done)|skip
         all_goals exact bad (by rw[hL,hW];exact .inl ⟨h0,rfl⟩)
       · have hz:((i:Int)==0)=false:=by simp;omega
         simp(maxSteps:=9^6)-dsimp only[go_sem,hg,hc,aM,forall_eq',cP,d1,d3,d4,d5,d6,d7,hz,bF,eZ,bL,bV]
         repeat' first|intro _|apply And.intro
         all_goals first|omega|(rename_i h9;simp at h9;done)|skip
         all_goals exact bad (by rw[hL,hW];exact .inr rfl)
     · have d1:decide (97<=(c.toNat:Int))=false:=dP (by omega)
       have d2:decide ((c.toNat:Int)<=122)=true:=eE (by omega)
       have d3:decide (65<=(c.toNat:Int))=true:=eE (by omega)
       have d4:decide ((c.toNat:Int)<=90)=false:=dP (by omega)
       have d5:((c.toNat:Int)==95)=true:=by simp;omega
       have d6:decide (48<=(c.toNat:Int))=true:=eE (by omega)
       have d7:decide ((c.toNat:Int)<=57)=false:=dP (by omega)
       have hL:dY c.toNat=false:=by unfold dY;rw[d1,d2,d3,d4];rfl
       have hW:dQ c=true:=by unfold dQ oB nI;rw[hL,d5,d6,d7];rfl
       rcases gK i with h0|h0
       · have hz:((i:Int)==0)=true:=by simp;omega
         simp(maxSteps:=9^6)-dsimp only[go_sem,hg,hc,aM,forall_eq',cP,d1,d3,d4,d5,hz,bF,eZ,bL,dF,bN,bV]
         repeat' first|intro _|apply And.intro
         all_goals first|omega|(rename_i h9;simp at h9;done)|skip
         all_goals exact bad (by rw[hL,hW];exact .inl ⟨h0,rfl⟩)
       · have hz:((i:Int)==0)=false:=by simp;omega
         simp(maxSteps:=9^6)-dsimp only[go_sem,hg,hc,aM,forall_eq',cP,d1,d3,d4,d5,hz,bF,eZ,bL,bN,bV]
         repeat' first|intro _|apply And.intro
         all_goals first|omega|(rename_i h9;simp at h9;done)|skip
         all_goals exact aC (i+1) 0 (fW (by rw[hW]) (fun h3=>by omega)) (by omega) (by simp -dsimp only[go_sem];simp) (by simp[go_sem])
     · have d1:decide (97<=(c.toNat:Int))=false:=dP (by omega)
       have d2:decide ((c.toNat:Int)<=122)=true:=eE (by omega)
       have d3:decide (65<=(c.toNat:Int))=true:=eE (by omega)
       have d4:decide ((c.toNat:Int)<=90)=false:=dP (by omega)
       have d5:((c.toNat:Int)==95)=false:=by simp;omega
       have d6:decide (48<=(c.toNat:Int))=true:=eE (by omega)
       have d7:decide ((c.toNat:Int)<=57)=false:=dP (by omega)
       have hL:dY c.toNat=false:=by unfold dY;rw[d1,d2,d3,d4];rfl
       have hW:dQ c=false:=by unfold dQ oB nI;rw[hL,d5,d6,d7];rfl
       rcases gK i with h0|h0
       · have hz:((i:Int)==0)=true:=by simp;omega
         simp(maxSteps:=9^6)-dsimp only[go_sem,hg,hc,aM,forall_eq',cP,d1,d3,d4,d5,d6,hz,bF,eZ,bL,dF,bN,bV]
         repeat' first|intro _|apply And.intro
         all_goals first|omega|(rename_i h9;simp at h9;done)|skip
         all_goals exact bad (by rw[hL,hW];exact .inl ⟨h0,rfl⟩)
       · have hz:((i:Int)==0)=false:=by simp;omega
         simp(maxSteps:=9^6)-dsimp only[go_sem,hg,hc,aM,forall_eq',cP,d1,d3,d4,d5,d6,d7,hz,bF,eZ,bL,bV]
         repeat' first|intro _|apply And.intro
         all_goals first|omega|(rename_i h9;simp at h9;done)|skip
         all_goals exact bad (by rw[hL,hW];exact .inr rfl)
     · have d1:decide (97<=(c.toNat:Int))=true:=eE (by omega)
       have d2:decide ((c.toNat:Int)<=122)=true:=eE (by omega)
       have d3:decide (65<=(c.toNat:Int))=true:=eE (by omega)
       have d4:decide ((c.toNat:Int)<=90)=false:=dP (by omega)
       have d5:((c.toNat:Int)==95)=false:=by simp;omega
       have d6:decide (48<=(c.toNat:Int))=true:=eE (by omega)
       have d7:decide ((c.toNat:Int)<=57)=false:=dP (by omega)
       have hL:dY c.toNat=true:=by unfold dY;rw[d1,d2,d3,d4];rfl
       have hW:dQ c=true:=by unfold dQ oB nI;rw[hL,d5,d6,d7];rfl
       rcases gK i with h0|h0
       · have hz:((i:Int)==0)=true:=by simp;omega
         simp(maxSteps:=9^6)-dsimp only[go_sem,hg,hc,aM,forall_eq',cP,d1,d2,d5,d6,hz,bF,eZ,bL,dF,bN,bV]
         repeat' first|intro _|apply And.intro
         all_goals first|omega|(rename_i h9;simp at h9;done)|skip
         all_goals exact aC (i+1) 0 (fW (by rw[hW]) (fun h3=>by rw[hL])) (by omega) (by simp -dsimp only[go_sem];simp) (by simp[go_sem])
       · have hz:((i:Int)==0)=false:=by simp;omega
         simp(maxSteps:=9^6)-dsimp only[go_sem,hg,hc,aM,forall_eq',cP,d1,d2,d5,d6,d7,hz,bF,eZ,bL,bN,bV]
         repeat' first|intro _|apply And.intro
         all_goals first|omega|(rename_i h9;simp at h9;done)|skip
         all_goals exact aC (i+1) 0 (fW (by rw[hW]) (fun h3=>by rw[hL])) (by omega) (by simp -dsimp only[go_sem];simp) (by simp[go_sem])
     · have d1:decide (97<=(c.toNat:Int))=true:=eE (by omega)
       have d2:decide ((c.toNat:Int)<=122)=false:=dP (by omega)
       have d3:decide (65<=(c.toNat:Int))=true:=eE (by omega)
       have d4:decide ((c.toNat:Int)<=90)=false:=dP (by omega)
       have d5:((c.toNat:Int)==95)=false:=by simp;omega
       have d6:decide (48<=(c.toNat:Int))=true:=eE (by omega)
       have d7:decide ((c.toNat:Int)<=57)=false:=dP (by omega)
       have hL:dY c.toNat=false:=by unfold dY;rw[d1,d2,d3,d4];rfl
       have hW:dQ c=false:=by unfold dQ oB nI;rw[hL,d5,d6,d7];rfl
       rcases gK i with h0|h0
       · have hz:((i:Int)==0)=true:=by simp;omega
         simp(maxSteps:=9^6)-dsimp only[go_sem,hg,hc,aM,forall_eq',cP,d1,d2,d3,d4,d5,d6,hz,bF,eZ,dF,bN,bV]
         repeat' first|intro _|apply And.intro
         all_goals first|omega|(rename_i h9;simp at h9;done)|skip
         all_goals exact bad (by rw[hL,hW];exact .inl ⟨h0,rfl⟩)
       · have hz:((i:Int)==0)=false:=by simp;omega
         simp(maxSteps:=9^6)-dsimp only[go_sem,hg,hc,aM,forall_eq',cP,d1,d2,d3,d4,d5,d6,d7,hz,bF,eZ,bV]
         repeat' first|intro _|apply And.intro
         all_goals first|omega|(rename_i h9;simp at h9;done)|skip
         all_goals exact bad (by rw[hL,hW];exact .inr rfl)
   · have hg:decide ((i:Int)<((bl s).length:Int))=false:=by simp;omega
     obtain rfl:i=(bl s).length:=by omega
     obtain ⟨c,hc⟩:∃c,(bl s)[0]? = some c:=⟨_,aX hl0⟩
     simp(maxSteps:=9^6)-dsimp only[go_sem,hg]
     refine jG hK ?_
     rw[OQ hc hl (hb hl0 c hc) fun j x hx=>ha j x (bT.1 hx).1 hx]
theorem S6:Meets Tryz.prog 91 (DQ fun l=>.bool (wO l)).sp:=by
 refine aF Tryz.func91 a7E 1 (by rw[Tryz.ntmps91];decide) (aG G1 (aB _)) wZ ?_
 rintro xs H K ⟨⟨h,rfl⟩,hK⟩
 obtain ⟨s,rfl⟩:=mA h
 have hK':K (.va (.c1 (.vl (.bool (wO (bl s)))))) []:=hK
 clear hK h
 unfold wO at hK'
 cases hn:eP (bl s) with
 |false=>
  rw[hn] at hK'
  simp -dsimp only[go_sem,aE4,aGY,hn]
  exact .done hK'
 |true=>
  cases hl:bl s with
  |nil=>rw[hl] at hn;cases hn
  |cons c r=>
   rw[hl] at hn hK'
   rw[hn] at hK'
   simp -dsimp only[go_sem,aE4,aGY,hl,hn]
   refine ⟨by omega,fun d hd=>⟨fun _=>by omega,fun e he=>?_⟩⟩
   subst hd
   cases hc:decide (65<=(c.toNat:Int)) with
   |false=>simp only[hc,bF,bL] at hK';exact .done hK'
   |true=>
    obtain rfl:=he hc
    simp only[hc,bF] at hK';exact .done hK'
theorem aQF:Meets Tryz.prog 140 (uV dG C.ty fun t=>.bool ((t.e.length:Int)==0)).sp:=by
 refine aF Tryz.func140 aZF 1 (by rw[Tryz.ntmps140];decide) (aB _) pE ?_
 rintro av H K ⟨⟨h,rfl⟩,hK⟩
 obtain ⟨_,rfl,t,rfl,ht⟩:=fR h
 have hK:K (bS ((t.e.length:Int)==0)) []:=by
  have:(uV dG C.ty fun t=>.bool ((t.e.length:Int)==0)).val [.va (.gs (aK t))]=bA ((t.e.length:Int)==0):=by simp -dsimp only[go_sem]
  rw[this] at hK;exact hK
 simp(maxSteps:=9^6)-dsimp only[go_sem,aY,aIE,aI4]
 exact .z ((by simpa[go_sem] using hK))
def OW:List S->Prop:=fun av=>match av with
 |[.va (.c1 (.fz rs)),.va (.c1 (.vl (.int .i64 k))),.va (.c1 (.vl (.string _)))]=>xH rs/\0<=k/\k<=9223372036854775807
 |_=>False
theorem zW {av:List S} (h:OW av):∃(l:List ByteArray) (n:Nat) (x:ByteArray),av=[.va (.c1 (.fz (l.map bH))),iS .i64 n,tS x]/\l.length<=9223372036854775807/\(n:Int)<=9223372036854775807:=by
 unfold OW at h
 split at h
 · obtain ⟨⟨l,rfl,h1⟩,h2,h3⟩:=h
   rename_i k x
   exact ⟨l,k.toNat,x,by rw[s0 h2],h1,by omega⟩
 · exact h.elim
noncomputable def aNC:List S->A:=fun av=>match av with
 |[.va (.c1 (.fz rs)),.va (.c1 (.vl (.int .i64 k))),.va (.c1 (.vl (.string x)))]=>bA (bJ ((rs.map C.bs).take k.toNat) x)
 |_=>.gs []
noncomputable def inFn:Fun:=⟨OW,aNC,fun av h=>by obtain ⟨l,n,x,rfl,_⟩:=zW h;trivial⟩
theorem aEW:∀av H K,inFn.sp av H K->av.length=3:=fun av H K h=>by obtain ⟨l,n,x,rfl,_⟩:=zW h.1.1;rfl
attribute [go_sem] inFn OW aNC
theorem aE7:Meets Tryz.prog 54 inFn.sp:=by
 refine aF Tryz.func54 a7O 3 (by rw[Tryz.ntmps54];decide) (aB _) aEW ?_
 rintro av H K ⟨⟨h,rfl⟩,hK⟩
 obtain ⟨l,n,x,rfl,hl,hn⟩:=zW h
 have hK:K (bS (bJ (l.take n) x)) []:=by
  have:inFn.val [.va (.c1 (.fz (l.map bH))),iS .i64 n,tS x]=bA (bJ (l.take n) x):=by simp -dsimp only[go_sem,cP]
  rw[this] at hK;exact hK
 clear h
 simp(maxSteps:=9^6)-dsimp only[go_sem,aYI,aS8]
 refine aO (α:=Nat) (fun i=>[(0,.va (.c1 (.fz (l.map bH)))),(1,iS .i64 n),(2,tS x),(7,iS .i64 i)]) (fun _=>[])
  (fun i=>i<=(l.take n).length/\bJ ((l.take n).drop i) x=bJ (l.take n) x) (fun i=>l.length-i) 0 0 ⟨aP _,rfl⟩ ?_ ?_ ?_
 · simp[go_sem]
 · simp[go_sem]
 rintro i ⟨hi,ho⟩
 have hlt0:(l.take n).length=min n l.length:=by simp
 rcases bB i (l.take n).length with hlt|hge
 · have g1:decide ((i:Int)<(n:Int))=true:=by simp;omega
   have g2:decide ((i:Int)<(l.length:Int))=true:=by simp;omega
   obtain ⟨y,hx⟩:∃y,l[i]? = some y:=⟨_,aX (by omega)⟩
   have hx':(l.take n)[i]? = some y:=by rw[gW,if_pos (by omega)];exact hx
   have q2:=aS (row:=bH) hx
   rw[bJ,eO hx'] at ho
   simp(maxSteps:=9^6)-dsimp only[go_sem,g1,g2,↓q2,cK]
   have hsy:decide (y=x)=decide (x=y):=by simp[eq_comm]
   refine ⟨by omega,fun hc=>?_,fun hc=>⟨by omega,aC (i+1) 0 ⟨by omega,?_⟩ (by omega) ?_ ?_⟩⟩
   · rw[<-hsy,hc,cR] at ho
     rw[<-ho] at hK
     exact .done hK
   · rw[<-hsy,hc,bK] at ho
     exact ho
   · simp[go_sem]
   · simp[go_sem]
 · obtain rfl:i=(l.take n).length:=by omega
   rw[bJ,g8] at ho
   rw[<-ho] at hK
   generalize hm:(l.take n).length=m at *
   rcases bB m n with h1|h1
   · have g1:decide ((m:Int)<(n:Int))=true:=by simp;omega
     have g2:decide ((m:Int)<(l.length:Int))=false:=by simp;omega
     simp(maxSteps:=9^6)-dsimp only[go_sem,g1,g2]
     exact .done hK
   · have g1:decide ((m:Int)<(n:Int))=false:=by simp;omega
     simp(maxSteps:=9^6)-dsimp only[go_sem,g1]
     exact .done hK
theorem mR:Meets Tryz.prog 20 zU:=by
 refine aF Tryz.func20 bAE 2 (by rw[Tryz.ntmps20];decide) (aB _) (fun av H K h=>by obtain ⟨_,_,rfl,_⟩:=h;rfl) ?_
 rintro av H K ⟨s,n,rfl,rfl,hs,hK⟩
 rw[<-oD] at hK
 have hl:=hs.ok.ls
 simp -dsimp only[go_sem,aA,aV2,aVO]
 refine aO (α:=Nat) (fun i=>[(1,tS n),(2,.va (.c1 (.pt 0 0))),(4,.va (.c1 (.pt 1 0))),(6,iS .i64 i)]) (fun _=>[.cells (aA s) 25,.cells [.vl (.string (mk [])),.vl (.slice none 0 0)] 50])
  (fun i=>i<=s.ss.length/\fS (s.ss.drop i) n=fS s.ss n) (fun i=>s.ss.length-i) 0 2 ⟨aP _,rfl⟩ ?_ ?_ ?_
 · simp[go_sem]
 · simp[go_sem,aA]
 rintro i ⟨hi,ho⟩
 rcases bB i s.ss.length with hlt|hge
 · have hg:decide ((i:Int)<(s.ss.length:Int))=true:=by simp;omega
   obtain ⟨t,hx⟩:∃e,s.ss[i]? = some e:=⟨_,aX hlt⟩
   have q2:=aS (row:=aD) hx
   rw[fS,kP hx] at ho
   cases hc:decide (t.nm=n) with
   |true=>
    rw[hc,aQ] at ho
    rw[<-ho] at hK
    simp(maxSteps:=9^6)-dsimp only[go_sem,hg,↓q2,aD,aA,cK,hc]
    refine ⟨by omega,by omega,.z ((by simpa[go_sem,aD] using hK))⟩
   |false=>
    rw[hc,aI] at ho
    simp(maxSteps:=9^6)-dsimp only[go_sem,hg,↓q2,aD,aA,cK,hc]
    refine ⟨by omega,by omega,aC (i+1) 2 ⟨by omega,ho⟩ (by omega) ?_ ?_⟩
    · simp[go_sem]
    · simp[go_sem,aA]
 · have hg:decide ((i:Int)<(s.ss.length:Int))=false:=by simp;omega
   obtain rfl:i=s.ss.length:=by omega
   rw[dT] at ho
   rw[<-ho] at hK
   simp -dsimp only[go_sem,hg,aA]
   exact .z ((by simpa[go_sem,fS,J8] using hK))
def IG:W.Spec:=fun av H K=>∃(s:Sc) (n:ByteArray),av=[.va (.gs (aA s)),tS n]/\H=[]/\s.fit/\K (.tu [.gs (aV ((cO s.es n).getD default)),bA (cI s.es n)]) []
theorem j9 {s:Sc} {n:ByteArray} {K:S->Hp->Prop} (h:s.fit) (hK:K (.tu [.gs (aV ((cO s.es n).getD default)),bA (cI s.es n)]) []):IG [.va (.gs (aA s)),tS n] [] K:=⟨s,n,rfl,rfl,h,hK⟩
theorem MU:aV default=[.vl (.string (mk [])),.fz [],.fz []]:=rfl
theorem SB:Meets Tryz.prog 93 IG:=by
 refine aF Tryz.func93 a8R 2 (by rw[Tryz.ntmps93];decide) (aB _) (fun av H K h=>by obtain ⟨_,_,rfl,_⟩:=h;rfl) ?_
 rintro av H K ⟨s,n,rfl,rfl,hs,hK⟩
 rw[<-EW] at hK
 have hl:=hs.ok.le
 simp -dsimp only[go_sem,aA,aWQ,aUJ]
 refine aO (α:=Nat) (fun i=>[(1,tS n),(2,.va (.c1 (.pt 0 0))),(4,.va (.c1 (.pt 1 0))),(6,iS .i64 i)]) (fun _=>[.cells (aA s) 25,.cells [.vl (.string (mk [])),.vl (.slice none 0 0),.vl (.slice none 0 0)] 70])
  (fun i=>i<=s.es.length/\cO (s.es.drop i) n=cO s.es n) (fun i=>s.es.length-i) 0 2 ⟨aP _,rfl⟩ ?_ ?_ ?_
 · simp[go_sem]
 · simp[go_sem,aA]
 rintro i ⟨hi,ho⟩
 rcases bB i s.es.length with hlt|hge
 · have hg:decide ((i:Int)<(s.es.length:Int))=true:=by simp;omega
   obtain ⟨t,hx⟩:∃e,s.es[i]? = some e:=⟨_,aX hlt⟩
   have q2:=aS (row:=aV) hx
   rw[cO,kP hx] at ho
   cases hc:decide (t.nm=n) with
   |true=>
    rw[hc,aQ] at ho
    rw[<-ho] at hK
    simp(maxSteps:=9^6)-dsimp only[go_sem,hg,↓q2,aV,aA,cK,hc]
    refine ⟨by omega,by omega,.z ((by simpa[go_sem,aV] using hK))⟩
   |false=>
    rw[hc,aI] at ho
    simp(maxSteps:=9^6)-dsimp only[go_sem,hg,↓q2,aV,aA,cK,hc]
    refine ⟨by omega,by omega,aC (i+1) 2 ⟨by omega,ho⟩ (by omega) ?_ ?_⟩
    · simp[go_sem]
    · simp[go_sem,aA]
 · have hg:decide ((i:Int)<(s.es.length:Int))=false:=by simp;omega
   obtain rfl:i=s.es.length:=by omega
   rw[dT] at ho
   rw[<-ho] at hK
   simp -dsimp only[go_sem,hg,aA]
   exact .z ((by simpa[go_sem,cO,MU] using hK))
theorem OH:Meets Tryz.prog 105 wY:=by
 refine aF Tryz.func105 a07 2 (by rw[Tryz.ntmps105];decide) (aB _) (fun av H K h=>by obtain ⟨_,_,rfl,_⟩:=h;rfl) ?_
 rintro av H K ⟨s,n,rfl,rfl,hs,hsm,hK⟩
 have hl:=hs.len
 simp -dsimp only[go_sem,aD,aMK,aH3]
 refine aO (α:=Nat) (fun i=>[(1,iS .i64 n),(2,.va (.c1 (.pt 0 0))),(4,.va (.c1 (.pt 1 0))),(6,iS .i64 i)]) (fun _=>[.cells (aD s) 50,.cells [.vl (.int .i64 0),.vl (.string (mk [])),.vl (.int .i64 0),.vl (.int .i64 0),.vl (.string (mk [])),.vl (.slice none 0 0),.vl (.bool false)] 47])
  (fun i=>i<=s.fs.length/\fF (s.fs.drop i) n=fF s.fs n) (fun i=>s.fs.length-i) 0 2 ⟨aP _,rfl⟩ ?_ ?_ ?_
 · simp[go_sem]
 · simp[go_sem,aD]
 rintro i ⟨hi,ho⟩
 rcases bB i s.fs.length with hlt|hge
 · have hg:decide ((i:Int)<(s.fs.length:Int))=true:=by simp;omega
   obtain ⟨t,hx⟩:∃e,s.fs[i]? = some e:=⟨_,aX hlt⟩
   have q2:=aS (row:=aN) hx
   rw[fF,kP hx] at ho
   have hq:(t.num==n)=decide (t.num=n):=rfl
   cases hc:decide (t.num=n) with
   |true=>
    rw[hc,aQ] at ho
    rw[<-ho] at hK
    simp(maxSteps:=9^6)-dsimp only[go_sem,hg,↓q2,aN,aD,hq,hc]
    refine ⟨by omega,by omega,.z ((by simpa[go_sem,aN] using hK))⟩
   |false=>
    rw[hc,aI] at ho
    simp(maxSteps:=9^6)-dsimp only[go_sem,hg,↓q2,aN,aD,hq,hc]
    refine ⟨by omega,by omega,aC (i+1) 2 ⟨by omega,ho⟩ (by omega) ?_ ?_⟩
    · simp[go_sem]
    · simp[go_sem,aD]
 · have hg:decide ((i:Int)<(s.fs.length:Int))=false:=by simp;omega
   obtain rfl:i=s.fs.length:=by omega
   rw[dT] at ho
   rw[<-ho] at hK
   simp -dsimp only[go_sem,hg,aD]
   exact .z ((by simpa[go_sem,fF,lH] using hK))
end Go.Proofs.YtblfcdllimkbhaaGreat
namespace Go.Proofs
open Go.Shelf
def Tryz.lays16_ren:Go.Shelf.Ren:=⟨fun|16=>75|n=>n,fun|24=>67|n=>n,fun|n=>n⟩
theorem Tryz.lays16:Go.Proofs.Lays2.n16 Tryz.prog Tryz.lays16_ren:={
 mixed:=by kernel_rfl
 f16:=Tryz.func75.trans (congrArg some (by kernel_rfl))
 t4:=Tryz.underlying4
 a4:=Tryz.isAgg4
 z4:=Tryz.sizeOf4
 v4:=Tryz.zeroValue4
 t9:=Tryz.underlying9
 a9:=Tryz.isAgg9
 z9:=Tryz.sizeOf9
 v9:=Tryz.zeroValue9
 t24:=Tryz.underlying67
 a24:=Tryz.isAgg67
 z24:=Tryz.sizeOf67
 v24:=Tryz.zeroValue67
 i9:=by kernel_rfl }
def Tryz.lays15_ren:Go.Shelf.Ren:=⟨fun|15=>76|n=>n,fun|22=>68|n=>n,fun|n=>n⟩
theorem Tryz.lays15:Go.Proofs.Lays2.n15 Tryz.prog Tryz.lays15_ren:={
 mixed:=by kernel_rfl
 f15:=Tryz.func76.trans (congrArg some (by kernel_rfl))
 t3:=Tryz.underlying3
 a3:=Tryz.isAgg3
 z3:=Tryz.sizeOf3
 v3:=Tryz.zeroValue3
 t4:=Tryz.underlying4
 a4:=Tryz.isAgg4
 z4:=Tryz.sizeOf4
 v4:=Tryz.zeroValue4
 t22:=Tryz.underlying68
 a22:=Tryz.isAgg68
 z22:=Tryz.sizeOf68
 v22:=Tryz.zeroValue68
 i3:=by kernel_rfl }
end Go.Proofs
namespace Go.Proofs.YtblfcdllimkbhaaGreat
open Go.W Go.RowKit
theorem aNM {X:Ctx} {E:Es} {ro:RO} {w w':World} (h:Rel X E ro w) {blk:B} {g:Gb} (hb:∀k,k<w.heap.size->w'.heap[k]? = w.heap[k]?) (hsz:w.heap.size<=w'.heap.size)
 (h1:w'.os=w.os) (h2:w'.tape=w.tape) (h3:w'.output=w.output) (hob:∀b,g.ob=some b->w.heap.size<=b) (hon:blk.On (gm (E++[(g,blk)])) ro w' g):Rel X (E++[(g,blk)]) ro w':=by
 have hext:GExt (gm E) (gm (E++[(g,blk)])):=eS _
 have hget:∀(n:Nat) (y:Gb×B),(E++[(g,blk)])[n]? = some y->(n=E.length/\y=(g,blk))\/(n<E.length/\E[n]? = some y):=by
  intro n y hy
  rw[List.getElem?_append] at hy
  split at hy
  · exact .inr ⟨by assumption,hy⟩
  · have:n-E.length=0:=by
     rcases gK (n-E.length) with h0|h0
     · exact h0
     · rw[iE (by simp;omega)] at hy;cases hy
    rw[this] at hy
    exact .inl ⟨by omega,by simpa using hy.symm⟩
 have old:∀(n k:Nat) (gn:Gb) (bk:B),E[n]? = some (gn,bk)->gn.ob=some k->bk.live=true->k<w.heap.size:=fun n k gn bk hy hk hl=>(h.own n _ bk hy).lt hl hk
 refine ⟨fun n g' bk hy=>?_,fun n m gn gm bn bm k hy hz en em ln lm=>?_,fun k off c hc n gn bk hy en=>?_,fun k off c hc=>?_,h.ro0,h.rob,fun n k gn bk hy en ln=>?_,h.gx.trans hext,dM h.sz hsz,fun k hk hp=>?_,by rw[h1];exact h.os,by rw[h2];exact h.tape,by rw[h3];exact h.output⟩
 · rcases hget n _ hy with ⟨rfl,he⟩|⟨hlt,hy'⟩
   · simp only[Prod.mk.injEq] at he;obtain ⟨rfl,rfl⟩:=he;exact hon
   · by_cases hlv:bk.live=true
     · exact (h.own n g' bk hy').same hext (Ext.refl _) fun k hk=>hb k (old n k g' bk hy' hk hlv)
     · cases bk<;>simp[B.live] at hlv;trivial
 · rcases hget n _ hy with ⟨rfl,he⟩|⟨hlt,hy'⟩<;>rcases hget m _ hz with ⟨rfl,he2⟩|⟨hlt2,hz'⟩
   · rfl
   · simp only[Prod.mk.injEq] at he;obtain ⟨rfl,rfl⟩:=he;have:=old m k gm bm hz' em lm;have:=hob k en;omega
   · simp only[Prod.mk.injEq] at he2;obtain ⟨rfl,rfl⟩:=he2;have:=old n k gn bn hy' en ln;have:=hob k em;omega
   · exact h.inj n m gn gm bn bm k hy' hz' en em ln lm
 · rcases hget n _ hy with ⟨rfl,he⟩|⟨hlt,hy'⟩
   · simp only[Prod.mk.injEq] at he;obtain ⟨rfl,rfl⟩:=he;have:=h.cell_lt hc;have:=hob k en;omega
   · exact h.apart k off c hc n gn bk hy' en
 · have:=h.rd k off c hc
   rw[<-this]
   simp only[World.cell?,hb k (h.cell_lt hc)]
 · rcases hget n _ hy with ⟨rfl,he⟩|⟨hlt,hy'⟩
   · simp only[Prod.mk.injEq] at he;obtain ⟨rfl,rfl⟩:=he;have:=hob k en;have:=h.sz;exact .inl (by omega)
   · exact h.par n k gn bk hy' en ln
 · rw[hb k (by have:=h.sz;omega)]
   exact h.keep k hk hp
theorem V7 {X:Ctx} {ro:RO} {w w':World} (h:Rel X [] ro w) (hX:X.g0.length=0) {T:TypeId} {v:Value} {cs:List Value} (hne:cs≠[]) (_hone:∀u∈cs,u.oneCell'=true) (ho:w'.ownsRow w.heap.size T 1 v cs.length cs) (hb:Below w.heap.size w w') {K:S->Hp->Prop} (hK:K (.va (.c1 (.fz (cs.map fun u=>[C.vl u])))) []) :
 ∃r' E' ro',K r' (hp E')/\r'.rel (gm E') ro' v/\Rel X E' ro' w':=by
 have hlen:0<cs.length:=List.length_pos_iff.2 hne
 obtain ⟨h1,h2⟩:=ho
 rcases h2 with ⟨_,h0⟩|⟨b,cap,cur,rfl,hbb,hcell,hcap,hmax,hcs,htk⟩
 · omega
 have hfl:(cs.map fun u=>[C.vl u]).flatten=cs.map C.vl:=by
  clear h1 hlen hcap htk hK hne _hone
  induction cs with
  |nil=>rfl
  |cons x l ih=>rw[gC,fA,ih];rfl
 let g:Gb:=⟨some b,true,cs.length,cap,T,cs⟩
 have hR:Rel X ([]++[(g,.row (cs.map fun u=>[C.vl u]) T 1)]) ro w':=by
  refine aNM h (fun k hk=>hb.block k hk) hb.size hb.os hb.tape hb.output (fun b' hb'=>by cases hb';exact hbb) ⟨rfl,by simp[g],fun x hx=>?_,fun c hc=>?_,⟨by simp[g],.inr ⟨b,cap,cur,?_,aP _,hcell,by simp;exact hcap,hmax,hcs,?_⟩⟩,?_,fun b' _=>(by show 0<cap;omega)⟩
  · obtain ⟨y,_,rfl⟩:=dO.1 hx;rfl
  · rw[hfl] at hc;obtain ⟨y,_,rfl⟩:=dO.1 hc;rfl
  · simp[bX,g]
  · rw[cE];exact htk
  · rw[hfl]
    refine ⟨by simp[g],fun i x y hx hy=>?_⟩
    rw[b9] at hx
    have hy:cs[i]? = some y:=hy
    rw[hy] at hx
    cases hx;rfl
 refine OE (X:=X) (k0:=0) hX (r:=.va (.c1 (.sl 0 (cs.map fun u=>[C.vl u]).length))) (.pub 0 _ T 1 (by rfl) (.sel [] (by simp) (by simp[cS]) rfl (.done ?_))) rfl ?_ hR
 · simp -dsimp only[go_sem,cS];simpa using hK
 · refine ⟨g,rfl,rfl,by simp[g],⟨_,_,_,rfl⟩,fun _=>?_⟩
   simp[g,bX]
theorem wE {X:Ctx} {ro:RO} {w w':World} (h:Rel X [] ro w) {o:Option Addr} {c:Nat} (hb:Below w.heap.size w w') {K:S->Hp->Prop} (hK:K (.va (.c1 (.fz []))) []) :
 ∃r' E' ro',K r' (hp E')/\r'.rel (gm E') ro' (.slice o 0 c)/\Rel X E' ro' w':=
 ⟨.va (.c1 (.fz [])),[],ro,hK,FzR.mk (ro:=ro) [] 1 none o (fun h=>absurd rfl h) c (fun _=>undef) (by simp) (aP _) (by simp) (by simp) (by simp) (by simp) (by simp),h.aside (fun k hk=>hb.block k hk) hb.size hb.os hb.tape hb.output⟩
def aJA:W.Spec:=fun av H K=>∃l:List ByteArray,av=[.va (.c1 (.fz (l.map bH)))]/\H=[]/\l.length<=1000000000/\K (.va (.c1 (.fz (l.map bH)))) []
theorem aP7 {l:List ByteArray} {K:S->Hp->Prop} (h:l.length<=1000000000) (hK:K (.va (.c1 (.fz (l.map bH)))) []):aJA [.va (.c1 (.fz (l.map bH)))] [] K:=⟨l,rfl,rfl,h,hK⟩
theorem aER (l:List ByteArray):(l.map bH).flatten=(l.map Value.string).map C.vl:=by
 induction l with
 |nil=>rfl
 |cons x l ih=>rw[gC,fA,ih];rfl
theorem aEG (l:List ByteArray):(l.map Value.string).map (fun u=>[C.vl u])=l.map bH:=by rw[fK];rfl
theorem a81:Meets Tryz.prog 75 aJA:=by
 refine ⟨by kernel_rfl,fun av vs E ro w K hlen hrel hR hs _=>?_⟩
 obtain ⟨l,rfl,hH,hl,hK⟩:=hs
 match E,hH with
 |[],_=>
  match vs,hlen with
  |[v0],_=>
   have r0:FzR ro (l.map bH) v0:=hrel 0 _ _ rfl rfl
   cases hl0:l with
   |nil=>
    subst hl0
    generalize hx:([]:List ByteArray).map bH=xs at r0
    cases r0 with
    |mk xs sz o oa hoa cap us hz hc ho h1 h2 h3 h4=>
     subst hx
     have hK:K (.va (.c1 (.fz []))) []:=hK
     cases oa with
     |none=>
      refine (Any.slices_Clone_string_nil Tryz.lays16 0 cap w).mono ?_
      rintro e w' ⟨rfl,rfl⟩
      obtain ⟨r',E',ro',a1,a2,a3⟩:=wE (o:=none) (c:=0) hR (Below.refl _ _) hK
      exact ⟨r',_,E',ro',rfl,a2,a1,a3⟩
     |some a=>
      refine (Any.slices_Clone_string_zero Tryz.lays16 a cap w).mono ?_
      rintro e w' ⟨v',rfl,hown,_,hb⟩
      obtain ⟨o',c',rfl⟩:∃o' c',v'=.slice o' 0 c':=by
       rcases hown.2 with ⟨rfl,_⟩|⟨b,c',cur,rfl,_⟩
       · exact ⟨none,0,rfl⟩
       · exact ⟨_,c',rfl⟩
      obtain ⟨r',E',ro',a1,a2,a3⟩:=wE (o:=o') (c:=c') hR hb hK
      exact ⟨r',_,E',ro',rfl,a2,a1,a3⟩
   |cons x0 lt=>
    have hne:l≠[]:=by rw[hl0];exact aDZ _ _
    clear hl0
    generalize hx:l.map bH=xs at r0
    cases r0 with
    |mk xs sz o oa hoa cap us hz hc ho h1 h2 h3 h4=>
     subst hx
     have hne2:l.map bH≠[]:=by simpa using hne
     obtain ⟨⟨b,off⟩,rfl⟩:=oW.1 (ho hne2)
     obtain rfl:=hoa hne2
     have hcell:∀j,j<l.length->w.cell? ⟨b,off+j,none⟩=some (Value.string (l.getD j ByteArray.empty)):=fun j hj=>by
      have hf:(l.map bH).flatten[j]? = some (.vl (Value.string (l.getD j ByteArray.empty))):=by
       rw[aER,b9,b9,aX hj]
       simp[hj]
      have e1:=h1 j _ hf
      have e2:=h2 j _ hf
      rw[e2] at e1
      exact hR.rd b (off+j) _ e1
     have key:=Any.slices_Clone_string Tryz.lays16 b off l.length cap l w (bE _) (by omega) hcell
     rw[eC] at key
     rw[cE]
     refine key.mono ?_
     rintro e w' ⟨v',rfl,hown,_,hb⟩
     rw[<-cE (f:=Value.string)] at hown
     obtain ⟨r',E',ro',a1,a2,a3⟩:=V7 hR rfl (cs:=l.map Value.string) (by simpa using hne) (fun u hu=>by obtain ⟨y,_,rfl⟩:=dO.1 hu;rfl) hown hb (by rw[aEG];exact hK)
     exact ⟨r',_,E',ro',rfl,a2,a1,a3⟩
def aL0:W.Spec:=fun av H K=>∃l:List Int,av=[.va (.c1 (.fz (l.map cV)))]/\H=[]/\l.length<=1000000000/\K (.va (.c1 (.fz (l.map cV)))) []
theorem aNG {l:List Int} {K:S->Hp->Prop} (h:l.length<=1000000000) (hK:K (.va (.c1 (.fz (l.map cV)))) []):aL0 [.va (.c1 (.fz (l.map cV)))] [] K:=⟨l,rfl,rfl,h,hK⟩
theorem aHR (l:List Int):(l.map cV).flatten=(l.map (Value.int .i64)).map C.vl:=by
 induction l with
 |nil=>rfl
 |cons x l ih=>rw[gC,fA,ih];rfl
theorem aHE (l:List Int):(l.map (Value.int .i64)).map (fun u=>[C.vl u])=l.map cV:=by rw[fK];rfl
theorem a87:Meets Tryz.prog 76 aL0:=by
 refine ⟨by kernel_rfl,fun av vs E ro w K hlen hrel hR hs _=>?_⟩
 obtain ⟨l,rfl,hH,hl,hK⟩:=hs
 match E,hH with
 |[],_=>
  match vs,hlen with
  |[v0],_=>
   have r0:FzR ro (l.map cV) v0:=hrel 0 _ _ rfl rfl
   cases hl0:l with
   |nil=>
    subst hl0
    generalize hx:([]:List Int).map cV=xs at r0
    cases r0 with
    |mk xs sz o oa hoa cap us hz hc ho h1 h2 h3 h4=>
     subst hx
     have hK:K (.va (.c1 (.fz []))) []:=hK
     cases oa with
     |none=>
      refine (Any.slices_Clone_int_nil Tryz.lays15 0 cap w).mono ?_
      rintro e w' ⟨rfl,rfl⟩
      obtain ⟨r',E',ro',a1,a2,a3⟩:=wE (o:=none) (c:=0) hR (Below.refl _ _) hK
      exact ⟨r',_,E',ro',rfl,a2,a1,a3⟩
     |some a=>
      refine (Any.slices_Clone_int_zero Tryz.lays15 a cap w).mono ?_
      rintro e w' ⟨v',rfl,hown,_,hb⟩
      obtain ⟨o',c',rfl⟩:∃o' c',v'=.slice o' 0 c':=by
       rcases hown.2 with ⟨rfl,_⟩|⟨b,c',cur,rfl,_⟩
       · exact ⟨none,0,rfl⟩
       · exact ⟨_,c',rfl⟩
      obtain ⟨r',E',ro',a1,a2,a3⟩:=wE (o:=o') (c:=c') hR hb hK
      exact ⟨r',_,E',ro',rfl,a2,a1,a3⟩
   |cons x0 lt=>
    have hne:l≠[]:=by rw[hl0];exact aDZ _ _
    clear hl0
    generalize hx:l.map cV=xs at r0
    cases r0 with
    |mk xs sz o oa hoa cap us hz hc ho h1 h2 h3 h4=>
     subst hx
     have hne2:l.map cV≠[]:=by simpa using hne
     obtain ⟨⟨b,off⟩,rfl⟩:=oW.1 (ho hne2)
     obtain rfl:=hoa hne2
     have hcell:∀j,j<l.length->w.cell? ⟨b,off+j,none⟩=some (Value.int .i64 (l.getD j 0)):=fun j hj=>by
      have hf:(l.map cV).flatten[j]? = some (.vl (Value.int .i64 (l.getD j 0))):=by
       rw[aHR,b9,b9,aX hj]
       simp[hj]
      have e1:=h1 j _ hf
      have e2:=h2 j _ hf
      rw[e2] at e1
      exact hR.rd b (off+j) _ e1
     have key:=Any.slices_Clone_int Tryz.lays15 b off l.length cap l w (bE _) (by omega) hcell
     rw[eC] at key
     rw[cE]
     refine key.mono ?_
     rintro e w' ⟨v',rfl,hown,_,hb⟩
     rw[<-cE (f:=(Value.int .i64))] at hown
     obtain ⟨r',E',ro',a1,a2,a3⟩:=V7 hR rfl (cs:=l.map (Value.int .i64)) (by simpa using hne) (fun u hu=>by obtain ⟨y,_,rfl⟩:=dO.1 hu;rfl) hown hb (by rw[aHE];exact hK)
     exact ⟨r',_,E',ro',rfl,a2,a1,a3⟩
end Go.Proofs.YtblfcdllimkbhaaGreat
namespace Go.Proofs.YtblfcdllimkbhaaGreat
open Go.W
theorem IX:Meets Tryz.prog 33 IG:=by
 refine aF Tryz.func33 bAC 2 (by rw[Tryz.ntmps33];decide) (aE a81 (aE a87 (aB _))) (fun av H K h=>by obtain ⟨_,_,rfl,_⟩:=h;rfl) ?_
 rintro av H K ⟨s,n,rfl,rfl,hs,hK⟩
 rw[<-EW] at hK
 have hl:=hs.ok.le
 simp -dsimp only[go_sem,aA,aQM,aRY]
 refine aO (α:=Nat) (fun i=>[(1,tS n),(2,.va (.c1 (.pt 0 0))),(4,.va (.c1 (.pt 1 0))),(9,.va (.c1 (.fz (s.es.map aV)))),(10,iS .i64 s.es.length),(11,iS .i64 i)]) (fun _=>[.cells (aA s) 25,.cells [.vl (.string (mk [])),.vl (.slice none 0 0),.vl (.slice none 0 0)] 70])
  (fun i=>i<=s.es.length/\cO (s.es.drop i) n=cO s.es n) (fun i=>s.es.length-i) 0 2 ⟨aP _,rfl⟩ ?_ ?_ ?_
 · simp[go_sem]
 · simp[go_sem,aA]
 rintro i ⟨hi,ho⟩
 rcases bB i s.es.length with hlt|hge
 · have hg:decide ((i:Int)<(s.es.length:Int))=true:=by simp;omega
   obtain ⟨t,hx⟩:∃e,s.es[i]? = some e:=⟨_,aX hlt⟩
   have q2:=aS (row:=aV) hx
   have htm:=cC hx
   rw[cO,kP hx] at ho
   cases hc:decide (t.nm=n) with
   |true=>
    rw[hc,aQ] at ho
    rw[<-ho] at hK
    simp(maxSteps:=9^6)-dsimp only[go_sem,hg,↓q2,aV,aA,cK,hc]
    refine ⟨by omega,aP7 (hs.en t htm).1 ?_⟩
    simp(maxSteps:=9^6)-dsimp only[go_sem]
    refine aNG (hs.en t htm).2 ?_
    simp(maxSteps:=9^6)-dsimp only[go_sem]
    exact .z ((by simpa[go_sem,aV] using hK))
   |false=>
    rw[hc,aI] at ho
    simp(maxSteps:=9^6)-dsimp only[go_sem,hg,↓q2,aV,aA,cK,hc]
    refine ⟨by omega,by omega,aC (i+1) 2 ⟨by omega,ho⟩ (by omega) ?_ ?_⟩
    · simp[go_sem]
    · simp[go_sem,aA]
 · have hg:decide ((i:Int)<(s.es.length:Int))=false:=by simp;omega
   obtain rfl:i=s.es.length:=by omega
   rw[dT] at ho
   rw[<-ho] at hK
   simp -dsimp only[go_sem,hg,aA]
   exact .z ((by simpa[go_sem,cO,MU] using hK))
noncomputable def eqB {α:Type} (a b:α):Bool:=@decide (a=b) (Classical.propDecidable _)
theorem WH:∀N,Meets Tryz.prog 187 (MO N).sp
 |0=>⟨by kernel_rfl,by rintro xs vs E ro w K _ _ _ ⟨⟨h,_⟩,_⟩;obtain ⟨a,_,_,_,_,h⟩:=fD h;have:=a.h_pos;omega⟩
 |N+1=>by
  refine aF Tryz.func187 aZD 2 (by rw[Tryz.ntmps187];decide) (aG (WH N) (aB _)) RX ?_
  rintro av H K ⟨⟨h,rfl⟩,hK⟩
  obtain ⟨a,b,rfl,ha,hb,hh⟩:=fD h
  have hK:K (bS (l5 a b)) []:=by
   have:(MO (N+1)).val [.va (.gs (aK a)),.va (.gs (aK b))]=bA (l5 a b):=by simp -dsimp only[go_sem]
   rw[this] at hK;exact hK
  clear h
  have fin:∀(x:Bool) (R:Hp),l5 a b=x->W.Fin 0 K (bS x) R:=fun x R h=>by
   rw[h] at hK
   exact .z ((by simpa[go_sem] using hK))
  obtain ⟨k,s,n,e⟩:=a
  obtain ⟨k',s',n',e'⟩:=b
  have hla:=ha.len
  have hoa:=ha.e
  have hob:=hb.e
  simp only[Ty.e] at hla hoa hob
  simp(maxSteps:=9^6)-dsimp only[go_sem,aK,aR,aJ7,aIG,cK]
  refine ⟨fun h1=>fin false _ (H5 fun he=>?_),fun h1=>?_⟩
  · obtain ⟨rfl,rfl,rfl,rfl⟩:=DH.1 he
    simp at h1
  simp only[cY,bne_eq_false_iff_eq,Bool.not_eq_false',fU] at h1
  obtain ⟨⟨⟨rfl,rfl⟩,rfl⟩,hl⟩:=h1
  have hl:e.length=e'.length:=by omega
  refine aO (α:=Nat) (fun i=>[(2,.va (.c1 (.pt 0 0))),(3,.va (.c1 (.pt 1 0))),(5,iS .i64 i)]) (fun i=>[.cells (aK (.mk k s n e)) 45,.cells (aK (.mk k s n e')) 45])
   (fun i=>i<=e.length/\∀j,j<i->e[j]? = e'[j]?) (fun i=>e.length-i) 0 2 ⟨aP _,fun j hj=>by omega⟩ ?_ ?_ ?_
  · simp -dsimp only[go_sem]<;>simp
  · simp -dsimp only[go_sem,aK,aR]<;>simp
  rintro i ⟨hi,ho⟩
  rcases bB i e.length with hlt|hge
  · have hg:decide ((i:Int)<(e.length:Int))=true:=by simp;omega
    obtain ⟨u,hx⟩:∃t,e[i]? = some t:=⟨_,aX hlt⟩
    obtain ⟨v,hy⟩:∃t,e'[i]? = some t:=⟨_,aX (by omega)⟩
    have q1:=aS (row:=aK) hx
    have q2:=aS (row:=aK) hy
    have hu:dG (aK u):=bM (hoa u (cC hx))
    have hv:dG (aK v):=bM (hob v (cC hy))
    have huh:u.h<=N:=by have:=Ty.hs_mem (cC hx);rw[Ty.h] at hh;omega
    simp(maxSteps:=9^6)-dsimp only[go_sem,hg,aK,aR]
    simp(maxSteps:=9^6)-dsimp only[go_sem,dR,hu,hv,hx,hy,aM,forall_eq']
    refine ⟨by omega,by omega,huh,fun h1=>fin false _ (H5 fun he=>?_),fun h1=>?_⟩
    · obtain ⟨_,_,_,rfl⟩:=DH.1 he
      rw[hx] at hy
      rw[xX (dV hy)] at h1
      simp at h1
    · have h1:u=v:=rQ.1 (by simpa using h1)
      subst h1
      refine ⟨by omega,aC (i+1) 2 ⟨by omega,fun j hj=>?_⟩ (by omega) ?_ ?_⟩
      · rcases bB j i with h4|h4
        · exact ho j h4
        · obtain rfl:j=i:=by omega
          rw[hx,hy]
      · simp -dsimp only[go_sem]<;>simp
      · simp -dsimp only[go_sem,aK,aR]<;>simp
  · have hg:decide ((i:Int)<(e.length:Int))=false:=by simp;omega
    obtain rfl:i=e.length:=by omega
    simp(maxSteps:=9^6)-dsimp only[go_sem,hg,aK,aR]
    refine fin true _ (xX ?_)
    rw[DH]
    refine ⟨rfl,rfl,rfl,iF fun j=>?_⟩
    rcases bB j e.length with h4|h4
    · exact ho j h4
    · rw[iE h4,iE (by omega)]
theorem aBG:Meets Tryz.prog 187 sFn.sp:=dB 0 WH fun av H K ⟨⟨h,e⟩,hK⟩=>by
 obtain ⟨a,b,rfl,ha,hb⟩:=pL h
 exact ⟨a.h,⟨⟨⟨bM ha,bM hb,by rw[eF];exact bE _⟩,e⟩,hK⟩⟩
theorem aUI:Meets Tryz.prog 50 (uV rH C.sc fun s=>.bool (c9 s)).sp:=by
 refine aF Tryz.func50 bAP 1 (by rw[Tryz.ntmps50];decide) (aB _) pE ?_
 rintro av H K ⟨⟨h,rfl⟩,hK⟩
 obtain ⟨_,rfl,s,rfl,hs⟩:=fR h
 have hK:K (bS (c9 s)) []:=by
  have:(uV rH C.sc fun s=>.bool (c9 s)).val [.va (.gs (aA s))]=bA (c9 s):=by simp -dsimp only[go_sem]
  rw[this] at hK;exact hK
 obtain ⟨hv,hle,hls,hes,hss⟩:=hs
 have big:c9 s=true->∀R:Hp,W.Fin 0 K (bS true) R:=fun h R=>by
  rw[h] at hK
  exact .z ((by simpa[go_sem] using hK))
 cases d1:decide (16<(s.es.length:Int)) with
 |true=>
  simp(maxSteps:=9^6)-dsimp only[go_sem,aA,QB,SA,d1]
  exact big (by unfold c9;rw[show decide (16<s.es.length)=true by simp at d1 ⊢;omega];simp) _
 |false=>
 cases d2:decide (16<(s.ss.length:Int)) with
 |true=>
  simp(maxSteps:=9^6)-dsimp only[go_sem,aA,QB,SA,d1,d2]
  exact big (by unfold c9;rw[show decide (16<s.es.length+s.ss.length)=true by simp at d2 ⊢;omega];simp) _
 |false=>
 cases d3:decide (16<(s.es.length:Int)+(s.ss.length:Int)) with
 |true=>
  simp(maxSteps:=9^6)-dsimp only[go_sem,aA,QB,SA,d1,d2,d3]
  exact ⟨by simp at d1 d2;omega,big (by unfold c9;rw[show decide (16<s.es.length+s.ss.length)=true by simp at d3 ⊢;omega];simp) _⟩
 |false=>
 simp(maxSteps:=9^6)-dsimp only[go_sem,aA,QB,SA,d1,d2,d3]
 simp only[qF] at d1 d2 d3
 refine ⟨by omega,?_⟩
 have hL:c9 s=(s.es.any (fun e=>decide (16<e.ns.length))||s.ss.any (fun t=>decide (16<t.fs.length))):=by
  unfold c9;rw[dP (by omega),dP (by omega)];rfl
 refine aO (α:=Nat) (fun i=>[(1,.va (.c1 (.pt 0 0))),(3,iS .i64 i)]) (fun _=>[.cells (aA s) 25])
  (fun i=>i<=s.es.length/\(s.es.drop i).any (fun e=>decide (16<e.ns.length))=s.es.any (fun e=>decide (16<e.ns.length))) (fun i=>s.es.length-i) 0 1 ⟨aP _,rfl⟩ ?_ ?_ ?_
 · simp[go_sem]
 · simp[go_sem,aA]
 rintro i ⟨hi,ho⟩
 rcases bB i s.es.length with hlt|hge
 · have hg:decide ((i:Int)<(s.es.length:Int))=true:=by simp;omega
   obtain ⟨e,hx⟩:∃e,s.es[i]? = some e:=⟨_,aX hlt⟩
   have q2:=aS (row:=aV) hx
   rw[eO hx] at ho
   simp(maxSteps:=9^6)-dsimp only[go_sem,hg,↓q2,aV,aA]
   and_intros
   all_goals first
    |omega
    |skip
   · intro hc
     have hc':decide (16<e.ns.length)=true:=by simp at hc;simp;omega
     have:c9 s=true:=by simp only[hL,<-ho,hc',cR]
     rw[this] at hK
     exact .z ((by simpa[go_sem] using hK))
   · intro hc
     refine ⟨by omega,aC (i+1) 1 ⟨by omega,?_⟩ (by omega) ?_ ?_⟩
     · have hc':decide (16<e.ns.length)=false:=by simp at hc;simp;omega
       rw[<-ho,hc',bK]
     · simp[go_sem]
     · simp[go_sem,aA]
 · have hg:decide ((i:Int)<(s.es.length:Int))=false:=by simp;omega
   obtain rfl:i=s.es.length:=by omega
   rw[g8] at ho
   rw[<-ho,bK] at hL
   simp(maxSteps:=9^6)-dsimp only[go_sem,hg,aA]
   refine aO (α:=Nat) (fun i=>[(1,.va (.c1 (.pt 0 0))),(4,iS .i64 i)]) (fun _=>[.cells (aA s) 25])
    (fun i=>i<=s.ss.length/\(s.ss.drop i).any (fun e=>decide (16<e.fs.length))=s.ss.any (fun e=>decide (16<e.fs.length))) (fun i=>s.ss.length-i) 0 1 ⟨aP _,rfl⟩ ?_ ?_ ?_
   · simp[go_sem]
   · simp[go_sem,aA]
   clear hi ho hge hg
   rintro i ⟨hi,ho⟩
   rcases bB i s.ss.length with hlt|hge
   · have hg:decide ((i:Int)<(s.ss.length:Int))=true:=by simp;omega
     obtain ⟨e,hx⟩:∃e,s.ss[i]? = some e:=⟨_,aX hlt⟩
     have q2:=aS (row:=aD) hx
     rw[eO hx] at ho
     simp(maxSteps:=9^6)-dsimp only[go_sem,hg,↓q2,aD,aA]
     and_intros
     all_goals first
      |omega
      |skip
     · intro hc
       have hc':decide (16<e.fs.length)=true:=by simp at hc;simp;omega
       have:c9 s=true:=by simp only[hL,<-ho,hc',cR]
       rw[this] at hK
       exact .z ((by simpa[go_sem] using hK))
     · intro hc
       refine ⟨by omega,aC (i+1) 1 ⟨by omega,?_⟩ (by omega) ?_ ?_⟩
       · have hc':decide (16<e.fs.length)=false:=by simp at hc;simp;omega
         rw[<-ho,hc',bK]
       · simp[go_sem]
       · simp[go_sem,aA]
   · have hg:decide ((i:Int)<(s.ss.length:Int))=false:=by simp;omega
     obtain rfl:i=s.ss.length:=by omega
     rw[g8] at ho
     simp(maxSteps:=9^6)-dsimp only[go_sem,hg,aA]
     rw[hL,<-ho] at hK
     exact .z ((by simpa[go_sem] using hK))
def PX (len:Sc->Nat):List S->Prop:=fun av=>match av with
 |[.va (.gs r),.va (.c1 (.vl (.int .i64 i)))]=>kF r/\0<=i/\i<(len (C.sc r):Int)
 |_=>False
theorem tR {len:Sc->Nat} {av:List S} (h:PX len av):∃(s:Sc) (i:Nat),av=[.va (.gs (aA s)),iS .i64 i]/\s.fit/\i<len s:=by
 unfold PX at h
 split at h
 · obtain ⟨⟨a,rfl,ha⟩,h1,h2⟩:=h
   rw[cT] at h2
   rename_i i
   exact ⟨a,i.toNat,by rw[s0 h1],ha,by omega⟩
 · exact h.elim
noncomputable def aIO (f:Sc->Nat->Int):List S->A:=fun av=>match av with
 |[.va (.gs r),.va (.c1 (.vl (.int .i64 i)))]=>iA .i64 (f (C.sc r) i.toNat)
 |_=>.gs []
noncomputable def KJ (len:Sc->Nat) (f:Sc->Nat->Int):Fun:=⟨PX len,aIO f,fun av h=>by obtain ⟨a,b,rfl,_⟩:=tR h;trivial⟩
theorem SH {len:Sc->Nat} {f:Sc->Nat->Int}:∀av H K,(KJ len f).sp av H K->av.length=2:=fun av H K h=>by obtain ⟨a,b,rfl,_⟩:=tR h.1.1;rfl
attribute [go_sem] KJ PX aIO
theorem aOG:Meets Tryz.prog 51 (KJ (fun s=>s.es.length) j6).sp:=by
 refine aF Tryz.func51 a7Y 2 (by rw[Tryz.ntmps51];decide) (aG S6 (aG G1 (aG aE7 (aB _)))) SH ?_
 rintro av H K ⟨⟨h,rfl⟩,hK⟩
 obtain ⟨s,i,rfl,hs,hi⟩:=tR (len:=fun s=>s.es.length) h
 have hK:K (iS .i64 (j6 s i)) []:=by
  have:(KJ (fun s=>s.es.length) j6).val [.va (.gs (aA s)),iS .i64 i]=iA .i64 (j6 s i):=by simp -dsimp only[go_sem,cP]
  rw[this] at hK;exact hK
 clear h
 have hle:=hs.ok.le
 have fin:∀(x:Int) (R:Hp),j6 s i=x->W.Fin 0 K (iS .i64 x) R:=fun x R h=>by
  rw[h] at hK
  exact .z ((by simpa[go_sem] using hK))
 obtain ⟨e,hx⟩:∃e,s.es[i]? = some e:=⟨_,aX hi⟩
 have q1:=aS (row:=aV) hx
 obtain ⟨_,hln,hlv,_,_⟩:=hs.ok.es e (cC hx)
 have hA:j6 s i=bif !(wO (bl e.nm)) then 5 else bif cI (s.es.take i) e.nm then 7 else pW e:=by unfold j6;rw[hx]
 simp(maxSteps:=9^6)-dsimp only[go_sem,aA,aRG,aQN,↓q1,aV]
 refine ⟨by omega,fun h1=>fin 5 _ (by rw[hA,h1];rfl),fun h1=>?_⟩
 rw[h1] at hA
 simp only[aI] at hA
 refine aO (α:=Nat) (fun j=>[(1,iS .i64 i),(2,.va (.c1 (.pt 0 0))),(5,.va (.c1 (.pt 1 0))),(6,iS .i64 j)]) (fun _=>[.cells (aA s) 25,.cells (aV e) 70])
  (fun j=>j<=i/\cI ((s.es.take i).drop j) e.nm=cI (s.es.take i) e.nm) (fun j=>i-j) 0 2 ⟨aP _,rfl⟩ ?_ ?_ ?_
 · simp[go_sem]
 · simp[go_sem,aA,aV]
 have hti:(s.es.take i).length=i:=by rw[eJ];omega
 rintro j ⟨hj,ho⟩
 rcases bB j i with hlt|hge
 · have hg:decide ((j:Int)<(i:Int))=true:=by simp;omega
   obtain ⟨d,hd⟩:∃d,s.es[j]? = some d:=⟨_,aX (by omega)⟩
   have hd':(s.es.take i)[j]? = some d:=by rw[gW,if_pos hlt];exact hd
   have q2:=aS (row:=aV) hd
   rw[cI,eO hd'] at ho
   simp(maxSteps:=9^6)-dsimp only[go_sem,hg,↓q2,aV,aA,cK]
   refine ⟨by omega,fun hc=>?_,fun hc=>?_⟩
   · rw[hc,cR] at ho
     exact fin 7 _ (by rw[hA,<-ho];rfl)
   · rw[hc,bK] at ho
     refine ⟨by omega,aC (j+1) 2 ⟨by omega,ho⟩ (by omega) ?_ ?_⟩
     · simp[go_sem]
     · simp[go_sem,aA,aV]
 · obtain rfl:j=i:=by omega
   have hg:decide ((j:Int)<(j:Int))=false:=by simp
   rw[JU (by omega)] at ho
   rw[<-ho] at hA
   replace hA:j6 s j=pW e:=hA
   clear ho hti
   simp(maxSteps:=9^6)-dsimp only[go_sem,hg,aV,aA]
   refine ⟨fun h1=>?_,fun h1=>?_⟩
   · refine fin 2 _ ?_
     rw[hA]
     unfold pW
     have:(decide (e.ns.length=0)||decide (e.ns.length≠e.vs.length))=true:=by
      simp only[fB,beq_iff_eq,bne_iff_ne,fU] at h1 ⊢;omega
     rw[this];rfl
   simp only[cY,beq_eq_false_iff_ne,bne_eq_false_iff_eq,ne_eq] at h1
   have hl:e.ns.length=e.vs.length:=by omega
   have hF:j6 s j=fE (iI e) (e.ns.length-0) 0:=by
    rw[hA];unfold pW;rw[dP (by omega),dP (by omega)];rfl
   clear hA hg hge hj
   refine aO (α:=Nat) (fun k=>[(5,.va (.c1 (.pt 1 0))),(7,iS .i64 k)]) (fun _=>[.cells (aA s) 25,.cells (aV e) 70])
    (fun k=>k<=e.ns.length/\fE (iI e) (e.ns.length-k) k=fE (iI e) (e.ns.length-0) 0) (fun k=>e.ns.length-k) 0 2 ⟨aP _,rfl⟩ ?_ ?_ ?_
   · simp[go_sem]
   · simp[go_sem,aA,aV]
   rintro k ⟨hk,ho⟩
   rcases bB k e.ns.length with hlt|hge
   · have hg:decide ((k:Int)<(e.ns.length:Int))=true:=by simp;omega
     obtain ⟨nm,hx2⟩:∃nm,e.ns[k]? = some nm:=⟨_,aX hlt⟩
     obtain ⟨n,hy⟩:∃nm,e.vs[k]? = some nm:=⟨_,aX (by omega)⟩
     have q2:=aS (row:=bH) hx2
     have q3:=aS (row:=cV) hy
     have hbs:xH (e.ns.map bH):=rJ hln
     have hk0:(0<=(k:Int))=True:=by simp
     have hk1:((k:Int)<=9223372036854775807)=True:=by simp;omega
     have hA:iI e k=bif !(eP (bl nm)) then (5:Int) else bif bJ (e.ns.take k) nm then 7 else bif decide (n<0)||decide (127<n) then 4 else
      bif (decide ((k:Int)=0)&&decide (n≠0))||(decide (0<(k:Int))&&match e.vs[k-1]? with|some m=>decide (n<=m)|none=>false) then 2 else 0:=by
      unfold iI;rw[hx2,hy];rfl
     have fin':∀(x:Int) (R:Hp),iI e k=x->x≠0->W.Fin 0 K (iS .i64 x) R:=fun x R h1 h2=>fin x R (by
      rw[hF,<-ho,qB hlt (by rw[h1];exact h2),h1])
     have fW:iI e k=0->fE (iI e) (e.ns.length-(k+1)) (k+1)=fE (iI e) (e.ns.length-0) 0:=fun h1=>by rw[<-ho,tI hlt h1]
     cases hc1:eP (bl nm) with
     |false=>
      simp(maxSteps:=9^6)-dsimp only[go_sem,hg,↓q2,aV,aA,hc1]
      exact ⟨by omega,fin' 5 _ (by rw[hA,hc1];rfl) (by decide)⟩
     |true=>
      cases hc2:bJ (e.ns.take k) nm with
      |true=>
       simp(maxSteps:=9^6)-dsimp only[go_sem,hg,↓q2,aV,aA,hc1,hc2,hbs,hk0,hk1,cP]
       exact ⟨by omega,by omega,fin' 7 _ (by rw[hA,hc1,hc2];rfl) (by decide)⟩
      |false=>
       cases hc3:decide (n<0) with
       |true=>
        simp(maxSteps:=9^6)-dsimp only[go_sem,hg,↓q2,↓q3,aV,aA,hc1,hc2,hbs,hk0,hk1,cP,hc3]
        exact ⟨by omega,by omega,by omega,fin' 4 _ (by rw[hA,hc1,hc2,hc3];rfl) (by decide)⟩
       |false=>
       cases hc4:decide (127<n) with
       |true=>
        simp(maxSteps:=9^6)-dsimp only[go_sem,hg,↓q2,↓q3,aV,aA,hc1,hc2,hbs,hk0,hk1,cP,hc3,hc4]
        exact ⟨by omega,by omega,by omega,by omega,fin' 4 _ (by rw[hA,hc1,hc2,hc3,hc4];rfl) (by decide)⟩
       |false=>
       have hA2:iI e k=bif (decide ((k:Int)=0)&&decide (n≠0))||(decide (0<(k:Int))&&match e.vs[k-1]? with|some m=>decide (n<=m)|none=>false) then 2 else 0:=by rw[hA,hc1,hc2,hc3,hc4];rfl
       clear hA
       rcases gK k with h0|h0
       · have g0:((k:Int)==0)=true:=by simp;omega
         have g1:decide (0<(k:Int))=false:=by simp;omega
         have g2:decide ((k:Int)=0)=true:=g0
         cases hn:(n != 0) with
         |true=>
          simp(maxSteps:=9^6)-dsimp only[go_sem,hg,↓q2,↓q3,aV,aA,hc1,hc2,hbs,hk0,hk1,cP,hc3,hc4,g0,g1,hn,dF]
          and_intros
          all_goals first
           |omega
           |exact fin' 2 _ (by rw[hA2,g1,g2];simp at hn;simp[hn]) (by decide)
         |false=>
          simp(maxSteps:=9^6)-dsimp only[go_sem,hg,↓q2,↓q3,aV,aA,hc1,hc2,hbs,hk0,hk1,cP,hc3,hc4,g0,g1,hn,dF]
          and_intros
          all_goals first
           |omega
           |exact aC (k+1) 2 ⟨by omega,fW (by rw[hA2,g1];simp at hn;simp[hn])⟩ (by omega) (by simp[go_sem]) (by simp[go_sem,aA,aV])
       · have g0:((k:Int)==0)=false:=by simp;omega
         have g1:decide (0<(k:Int))=true:=by simp;omega
         have g2:decide ((k:Int)=0)=false:=g0
         obtain ⟨m,hm⟩:∃m,e.vs[k-1]? = some m:=⟨_,aX (by omega)⟩
         have q4:((k:Int)-1).toNat=k-1:=by omega
         have q5:=xZ (row:=cV) hm
         cases hn:decide (n<=m) with
         |true=>
          simp(maxSteps:=9^6)-dsimp only[go_sem,hg,↓q2,↓q3,aV,aA,hc1,hc2,hbs,hk0,hk1,cP,aM,forall_eq',hc3,hc4,g0,g1,q4,hm,hn,eZ]
          and_intros
          all_goals first
           |omega
           |exact fin' 2 _ (by rw[hA2,hm,g1];simp only[hn];simp) (by decide)
         |false=>
          simp(maxSteps:=9^6)-dsimp only[go_sem,hg,↓q2,↓q3,aV,aA,hc1,hc2,hbs,hk0,hk1,cP,aM,forall_eq',hc3,hc4,g0,g1,q4,hm,hn,eZ]
          and_intros
          all_goals first
           |omega
           |exact aC (k+1) 2 ⟨by omega,fW (by rw[hA2,hm,g1,g2];simp only[hn];rfl)⟩ (by omega) (by simp[go_sem]) (by simp[go_sem,aA,aV])
   · have hg:decide ((k:Int)<(e.ns.length:Int))=false:=by simp;omega
     obtain rfl:k=e.ns.length:=by omega
     rw[sS] at ho
     simp(maxSteps:=9^6)-dsimp only[go_sem,hg,aV]
     exact fin 0 _ (by rw[hF,<-ho])
def PU (N:Nat):List S->Prop:=fun av=>match av with
 |[.va (.gs r),.va (.gs q)]=>kF r/\dG q/\(C.ty q).h<=N
 |_=>False
theorem nD {N:Nat} {av:List S} (h:PU N av):∃s t,av=[.va (.gs (aA s)),.va (.gs (aK t))]/\s.fit/\TyOk t/\t.h<=N:=by
 unfold PU at h
 split at h
 · obtain ⟨⟨a,rfl,ha⟩,⟨b,rfl,hb⟩,hh⟩:=h
   rw[eF] at hh
   exact ⟨a,b,rfl,ha,hb,hh⟩
 · exact h.elim
noncomputable def YJ:List S->A:=fun av=>match av with
 |[.va (.gs r),.va (.gs q)]=>bA (valF (C.sc r).ss (C.sc r).es (C.ty q))
 |_=>.gs []
noncomputable def MK (N:Nat):Fun:=⟨PU N,YJ,fun av h=>by obtain ⟨a,b,rfl,_⟩:=nD h;trivial⟩
theorem P7 {N:Nat}:∀av H K,(MK N).sp av H K->av.length=2:=fun av H K h=>by obtain ⟨a,b,rfl,_⟩:=nD h.1.1;rfl
attribute [go_sem] MK PU YJ
theorem a8N {ss:List St} {es:List En} {s:Int} {n:ByteArray} {e:List Ty}:valF ss es (.mk 6 s n e)=(aZ ss n&&s==0&&(e.length:Int)==0):=by
 rw[valF];rfl
theorem a82 {ss:List St} {es:List En} {s:Int} {n:ByteArray} {e:List Ty}:valF ss es (.mk 7 s n e)=(cI es n&&s==0&&(e.length:Int)==0):=by
 rw[valF];rfl
theorem Z0:∀N,Meets Tryz.prog 94 (MK N).sp
 |0=>⟨by kernel_rfl,by rintro xs vs E ro w K _ _ _ ⟨⟨h,_⟩,_⟩;obtain ⟨_,a,_,_,_,h⟩:=nD h;have:=a.h_pos;omega⟩
 |N+1=>by
  refine aF Tryz.func94 a6N 2 (by rw[Tryz.ntmps94];decide) (aG (Z0 N) (aG aQF (aE mR (aE SB (aB _))))) P7 ?_
  rintro av H K ⟨⟨h,rfl⟩,hK⟩
  obtain ⟨sc,t,rfl,hs,ht,hh⟩:=nD h
  have hK:K (bS (valF sc.ss sc.es t)) []:=by
   have:(MK (N+1)).val [.va (.gs (aA sc)),.va (.gs (aK t))]=bA (valF sc.ss sc.es t):=by simp -dsimp only[go_sem]
   rw[this] at hK;exact hK
  clear h
  have fin:∀(b:Bool) (R:Hp),valF sc.ss sc.es t=b->W.Fin 0 K (bS b) R:=fun b R h=>by
   rw[h] at hK
   exact .z ((by simp -dsimp only[go_sem];simpa using hK))
  have hit:dG (aK t):=bM ht
  cases t with
  |mk k s n e=>
  have hcd:=eF (.mk k s n e)
  rw[aK,aR] at hcd hit
  have hcl:(Ty.mk k s n e).e.length=e.length:=rfl
  by_cases k1:(k==1)=true
  · have hF:=valF.eq_1 sc.ss sc.es k s n e
    rw[k1] at hF
    simp only[aQ] at hF
    simp(maxSteps:=9^6)-dsimp only[go_sem,aA,aK,aR,xJ,xC,k1,hit,hcd,hcl]
    exact fin _ _ hF
  rw[lD] at k1
  by_cases k2:(k==2)=true
  · have hF:=valF.eq_1 sc.ss sc.es k s n e
    rw[k1,k2] at hF
    simp only[aQ,aI] at hF
    simp(maxSteps:=9^6)-dsimp only[go_sem,aA,aK,aR,xJ,xC,k1,k2,hit,hcd,hcl]
    exact fin _ _ hF
  rw[lD] at k2
  by_cases k3:(k==3)=true
  · have hF:=valF.eq_1 sc.ss sc.es k s n e
    rw[k1,k2,k3] at hF
    simp only[aQ,aI,dF,oV] at hF
    simp(maxSteps:=9^6)-dsimp only[go_sem,aA,aK,aR,xJ,xC,k1,k2,k3,hit,hcd,hcl]
    exact fin _ _ hF
  rw[lD] at k3
  by_cases k4:(k==4)=true
  · have hF:=valF.eq_1 sc.ss sc.es k s n e
    rw[k1,k2,k3,k4] at hF
    simp only[aQ,aI] at hF
    simp(maxSteps:=9^6)-dsimp only[go_sem,aA,aK,aR,xJ,xC,k1,k2,k3,k4,hit,hcd,hcl]
    exact fin _ _ hF
  rw[lD] at k4
  by_cases k5:(k==5)=true
  · have hF:=valF.eq_1 sc.ss sc.es k s n e
    rw[k1,k2,k3,k4,k5] at hF
    simp only[aQ,aI] at hF
    cases hc:(decide (1<=s)&&decide (s<=32)&&bl n==[]&&(e.length:Int)==1) with
    |false=>
     have hF':valF sc.ss sc.es (.mk k s n e)=false:=by
      rw[hF]
      cases h0:(decide (1<=s)&&decide (s<=32)&&bl n==[]) with
      |false=>rfl
      |true=>
       rw[h0,bF] at hc
       match e,hc with
       |[],_=>rfl
       |[u],hc=>simp at hc
       |u::v::r,_=>simp[p8]
     simp(maxSteps:=9^6)-dsimp only[go_sem,aA,aK,aR,xJ,xC,k1,k2,k3,k4,k5,hc]
     exact fin _ _ hF'
    |true=>
     obtain ⟨u,rfl⟩:∃u,e=[u]:=by
      simp only[bI,beq_iff_eq] at hc
      exact lZ.1 (by omega)
     have h0:(decide (1<=s)&&decide (s<=32)&&bl n==[])=true:=by
      simp only[bI] at hc ⊢;exact hc.1
     have hF':valF sc.ss sc.es (.mk k s n [u])=valF sc.ss sc.es u:=by rw[hF,h0];simp[p8]
     have hu2:u.h<=N:=by rw[Ty.h,Ty.hs,Ty.hs] at hh;omega
     have hu:dG (aK u):=bM (ht.e u (by simp[Ty.e]))
     have hsf:=cN hs
     rw[aA] at hsf
     have hsd:=cT sc
     rw[aA] at hsd
     have hc':(decide (1<=s)&&decide (s<=32)&&bl n==[]&&((1:Nat):Int)==1)=true:=hc
     simp(maxSteps:=9^6)-dsimp only[go_sem,aA,aK,aR,xJ,xC,k1,k2,k3,k4,k5,hc']
     refine ⟨⟨by omega,fun r hr=>by subst hr;exact dR u⟩,fun r hr=>?_⟩
     subst hr
     simp(maxSteps:=9^6)-dsimp only[go_sem,hsf,hsd,hu,dR]
     exact ⟨hu2,fin _ _ hF'⟩
  rw[lD] at k5
  by_cases k6:(k==6)=true
  · obtain rfl:k=6:=by simpa using k6
    have hF:=a8N (ss:=sc.ss) (es:=sc.es) (s:=s) (n:=n) (e:=e)
    simp(maxSteps:=9^6)-dsimp only[go_sem,aA,aK,aR,xJ,xC,k1,k2,k3,k4,k5,k6]
    refine dJ hs ?_
    cases hc:aZ sc.ss n with
    |false=>
     rw[hc] at hF
     simp(maxSteps:=9^6)-dsimp only[go_sem,aD,hit,hcd,hcl]
     exact fin _ _ hF
    |true=>
     rw[hc] at hF
     simp(maxSteps:=9^6)-dsimp only[go_sem,aD,hit,hcd,hcl]
     exact fin _ _ hF
  rw[lD] at k6
  by_cases k7:(k==7)=true
  · obtain rfl:k=7:=by simpa using k7
    have hF:=a82 (ss:=sc.ss) (es:=sc.es) (s:=s) (n:=n) (e:=e)
    simp(maxSteps:=9^6)-dsimp only[go_sem,aA,aK,aR,xJ,xC,k1,k2,k3,k4,k5,k6,k7]
    refine j9 hs ?_
    cases hc:cI sc.es n with
    |false=>
     rw[hc] at hF
     simp(maxSteps:=9^6)-dsimp only[go_sem,aV,hit,hcd,hcl]
     exact fin _ _ hF
    |true=>
     rw[hc] at hF
     simp(maxSteps:=9^6)-dsimp only[go_sem,aV,hit,hcd,hcl]
     exact fin _ _ hF
  rw[lD] at k7
  have hF:=valF.eq_1 sc.ss sc.es k s n e
  rw[k1,k2,k3,k4,k5,k6,k7] at hF
  simp only[aI] at hF
  simp(maxSteps:=9^6)-dsimp only[go_sem,aA,aK,aR,xJ,xC,k1,k2,k3,k4,k5,k6,k7]
  exact fin _ _ hF
def PT:List S->Prop:=fun av=>match av with
 |[.va (.gs r),.va (.gs q)]=>kF r/\dG q
 |_=>False
theorem p9 {av:List S} (h:PT av):∃s t,av=[.va (.gs (aA s)),.va (.gs (aK t))]/\s.fit/\TyOk t:=by
 unfold PT at h
 split at h
 · obtain ⟨⟨a,rfl,ha⟩,⟨b,rfl,hb⟩⟩:=h
   exact ⟨a,b,rfl,ha,hb⟩
 · exact h.elim
noncomputable def r0Fn:Fun:=⟨PT,YJ,fun av h=>by obtain ⟨a,b,rfl,_⟩:=p9 h;trivial⟩
attribute [go_sem] r0Fn PT
theorem V9:Meets Tryz.prog 94 r0Fn.sp:=dB 0 Z0 fun av H K ⟨⟨h,e⟩,hK⟩=>by
 obtain ⟨a,b,rfl,ha,hb⟩:=p9 h
 exact ⟨b.h,⟨⟨⟨cN ha,bM hb,by rw[eF];exact bE _⟩,e⟩,hK⟩⟩
theorem aBJ:Meets Tryz.prog 52 (KJ (fun s=>s.ss.length) kO).sp:=by
 refine aF Tryz.func52 a90 2 (by rw[Tryz.ntmps52];decide) (aG S6 (aE SB (aG G1 (aG V9 (aB _))))) SH ?_
 rintro av H K ⟨⟨h,rfl⟩,hK⟩
 obtain ⟨s,i,rfl,hs,hi⟩:=tR (len:=fun s=>s.ss.length) h
 have hK:K (iS .i64 (kO s i)) []:=by
  have:(KJ (fun s=>s.ss.length) kO).val [.va (.gs (aA s)),iS .i64 i]=iA .i64 (kO s i):=by simp -dsimp only[go_sem,cP]
  rw[this] at hK;exact hK
 clear h
 have hls:=hs.ok.ls
 have fin:∀(x:Int) (R:Hp),kO s i=x->W.Fin 0 K (iS .i64 x) R:=fun x R h=>by
  rw[h] at hK
  exact .z ((by simpa[go_sem] using hK))
 obtain ⟨t,hx⟩:∃e,s.ss[i]? = some e:=⟨_,aX hi⟩
 have q1:=aS (row:=aD) hx
 obtain ⟨_,hlf,hfs⟩:=hs.ok.ss t (cC hx)
 have hA:kO s i=bif lO s i t.nm != 0 then lO s i t.nm else tB s.ss s.es t:=by unfold kO;rw[hx]
 have hsf:=cN hs
 rw[aA] at hsf
 have hsd:=cT s
 rw[aA] at hsd
 simp(maxSteps:=9^6)-dsimp only[go_sem,aA,aQR,aYQ,↓q1,aD]
 refine ⟨by omega,fun h1=>fin 5 _ (by rw[hA];unfold lO;rw[h1];rfl),fun h1=>?_⟩
 refine j9 hs ?_
 simp(maxSteps:=9^6)-dsimp only[go_sem,aV]
 refine ⟨fun h2=>fin 7 _ (by rw[hA];unfold lO;rw[h1,h2];rfl),fun h2=>?_⟩
 have hC:lO s i t.nm=bif aZ (s.ss.take i) t.nm then 7 else 0:=by unfold lO;rw[h1,h2];rfl
 generalize ((cO s.es t.nm).getD default)=dflt
 refine aO (α:=Nat) (fun j=>[(1,iS .i64 i),(2,.va (.c1 (.pt 0 0))),(5,.va (.c1 (.pt 1 0))),(8,iS .i64 j)]) (fun _=>[.cells (aA s) 25,.cells (aD t) 50])
  (fun j=>j<=i/\aZ ((s.ss.take i).drop j) t.nm=aZ (s.ss.take i) t.nm) (fun j=>i-j) 0 2 ⟨aP _,rfl⟩ ?_ ?_ ?_
 · simp[go_sem]
 · simp[go_sem,aA,aD]
 have hti:(s.ss.take i).length=i:=by rw[eJ];omega
 rintro j ⟨hj,ho⟩
 rcases bB j i with hlt|hge
 · have hg:decide ((j:Int)<(i:Int))=true:=by simp;omega
   obtain ⟨d,hd⟩:∃d,s.ss[j]? = some d:=⟨_,aX (by omega)⟩
   have hd':(s.ss.take i)[j]? = some d:=by rw[gW,if_pos hlt];exact hd
   have q2:=aS (row:=aD) hd
   rw[aZ,eO hd'] at ho
   simp(maxSteps:=9^6)-dsimp only[go_sem,hg,↓q2,aD,aA,cK]
   refine ⟨by omega,fun hc=>?_,fun hc=>?_⟩
   · rw[hc,cR] at ho
     exact fin 7 _ (by rw[hA,hC,<-ho];rfl)
   · rw[hc,bK] at ho
     refine ⟨by omega,aC (j+1) 2 ⟨by omega,ho⟩ (by omega) ?_ ?_⟩
     · simp[go_sem]
     · simp[go_sem,aA,aD]
 · obtain rfl:j=i:=by omega
   have hg:decide ((j:Int)<(j:Int))=false:=by simp
   rw[JU (by omega)] at ho
   have hF:kO s j=tB s.ss s.es t:=by rw[hA,hC,<-ho];rfl
   clear ho hti hA hC q1 hj hge
   simp(maxSteps:=9^6)-dsimp only[go_sem,hg,aD,aA]
   clear hg
   refine aO (α:=Nat) (fun k=>[(2,.va (.c1 (.pt 0 0))),(5,.va (.c1 (.pt 1 0))),(9,iS .i64 k)]) (fun _=>[.cells (aA s) 25,.cells (aD t) 50])
    (fun k=>k<=t.fs.length/\fE (mV s.ss s.es t) (t.fs.length-k) k=tB s.ss s.es t) (fun k=>t.fs.length-k) 0 2 ⟨aP _,rfl⟩ ?_ ?_ ?_
   · simp[go_sem]
   · simp[go_sem,aA,aD]
   rintro k ⟨hk,ho⟩
   rcases bB k t.fs.length with hlt|hge
   · have hg:decide ((k:Int)<(t.fs.length:Int))=true:=by simp;omega
     obtain ⟨f,hx2⟩:∃nm,t.fs[k]? = some nm:=⟨_,aX hlt⟩
     have q2:=aS (row:=aN) hx2
     have hf:f.ok:=hfs f (cC hx2)
     have hit:dG (aK f.ty):=bM hf.ty
     have hA:mV s.ss s.es t k=bif decide (f.num<1)||decide (127<f.num) then (4:Int) else bif decide (0<(k:Int))&&(match t.fs[k-1]? with|some g=>decide (f.num<=g.num)|none=>false) then 2 else
      bif !(eP (bl f.nm)) then 5 else bif (t.fs.take k).any (fun g=>decide (g.nm=f.nm)) then 7 else bif !(valF s.ss s.es f.ty) then 13 else 0:=by
      unfold mV;rw[hx2];rfl
     have fin':∀(x:Int) (R:Hp),mV s.ss s.es t k=x->x≠0->W.Fin 0 K (iS .i64 x) R:=fun x R h1 h2=>fin x R (by
      rw[hF,<-ho,qB hlt (by rw[h1];exact h2),h1])
     have fW:mV s.ss s.es t k=0->fE (mV s.ss s.es t) (t.fs.length-(k+1)) (k+1)=tB s.ss s.es t:=fun h1=>by rw[<-ho,tI hlt h1]
     cases c0:decide (f.num<1) with
     |true=>
      rw[c0] at hA
      simp(maxSteps:=9^6)-dsimp only[go_sem,hg,↓q2,aN,aD,aA,c0]
      exact ⟨by omega,fin' 4 _ hA (by decide)⟩
     |false=>
     cases c1:decide (127<f.num) with
     |true=>
      rw[c0,c1] at hA
      simp(maxSteps:=9^6)-dsimp only[go_sem,hg,↓q2,aN,aD,aA,c0,c1]
      exact ⟨by omega,fin' 4 _ hA (by decide)⟩
     |false=>
     rw[c0,c1] at hA
     simp only[uG,aI] at hA
     rcases gK k with h0|h0
     · have g1:decide (0<(k:Int))=false:=by simp;omega
       rw[g1] at hA
       simp only[bL,aI] at hA
       cases c3:eP (bl f.nm) with
       |false=>
        rw[c3] at hA
        simp(maxSteps:=9^6)-dsimp only[go_sem,hg,↓q2,aN,aD,aA,c0,c1,c3,g1]
        exact ⟨by omega,fin' 5 _ hA (by decide)⟩
       |true=>
        rw[c3] at hA
        simp only[bN,aI] at hA
        simp(maxSteps:=9^6)-dsimp only[go_sem,hg,↓q2,aN,aD,aA,c0,c1,c3,g1]
        refine ⟨by omega,?_⟩
        refine aO (α:=Nat) (fun j=>[(2,.va (.c1 (.pt 0 0))),(5,.va (.c1 (.pt 1 0))),(9,iS .i64 k),(10,.va (.c1 (.pt 2 0))),(11,iS .i64 j)])
         (fun _=>[.cells (aA s) 25,.cells (aD t) 50,.cells (aN f) 47])
         (fun j=>j<=k/\((t.fs.take k).drop j).any (fun g=>decide (g.nm=f.nm))=(t.fs.take k).any (fun g=>decide (g.nm=f.nm))) (fun j=>k-j) 0 3 ⟨aP _,rfl⟩ ?_ ?_ ?_
        · simp[go_sem]
        · simp[go_sem,aA,aD,aN]
        have htk:(t.fs.take k).length=k:=by rw[eJ];omega
        rintro j ⟨hj,ho2⟩
        rcases bB j k with hjt|hjg
        · have hgj:decide ((j:Int)<(k:Int))=true:=by simp;omega
          obtain ⟨d,hd⟩:∃e,t.fs[j]? = some e:=⟨_,aX (by omega)⟩
          have hd':(t.fs.take k)[j]? = some d:=by rw[gW,if_pos hjt];exact hd
          have q5:=aS (row:=aN) hd
          rw[eO hd'] at ho2
          simp(maxSteps:=9^6)-dsimp only[go_sem,hgj,↓q5,aN,aD,aA,cK]
          refine ⟨by omega,fun hc=>?_,fun hc=>?_⟩
          · rw[hc,cR] at ho2
            rw[<-ho2] at hA
            exact fin' 7 _ hA (by decide)
          · rw[hc,bK] at ho2
            refine ⟨by omega,aC (j+1) 3 ⟨by omega,ho2⟩ (by omega) ?_ ?_⟩
            · simp[go_sem]
            · simp[go_sem,aA,aD,aN]
        · obtain rfl:j=k:=by omega
          have hgj:decide ((j:Int)<(j:Int))=false:=by simp
          rw[JU (by omega)] at ho2
          rw[<-ho2] at hA
          simp only[aCZ,aI] at hA
          simp(maxSteps:=9^6)-dsimp only[go_sem,hgj,aN,aD,aA,nK,hit,hsf,hsd]
          cases c5:valF s.ss s.es f.ty with
          |true=>
           rw[c5] at hA
           simp(maxSteps:=9^6)-dsimp only[go_sem]
           refine ⟨by omega,aC (j+1) 2 ⟨by omega,fW hA⟩ (by omega) ?_ ?_⟩
           · simp[go_sem]
           · simp[go_sem,aA,aD]
          |false=>
           rw[c5] at hA
           simp(maxSteps:=9^6)-dsimp only[go_sem]
           exact fin' 13 _ hA (by decide)
     · have g1:decide (0<(k:Int))=true:=by simp;omega
       obtain ⟨g,hy⟩:∃m,t.fs[k-1]? = some m:=⟨_,aX (by omega)⟩
       have q4:((k:Int)-1).toNat=k-1:=by omega
       have q6:=xZ (row:=aN) hy
       rw[g1,hy,bF] at hA
       simp only at hA
       cases c2:decide (f.num<=g.num) with
       |true=>
        rw[c2] at hA
        simp(maxSteps:=9^6)-dsimp only[go_sem,hg,↓q2,aN,aD,aA,c0,c1,g1,q4,c2,hy,aM,forall_eq']
        exact ⟨by omega,by omega,by omega,fin' 2 _ hA (by decide)⟩
       |false=>
        rw[c2] at hA
        simp only[aI] at hA
        cases c3:eP (bl f.nm) with
        |false=>
         rw[c3] at hA
         simp(maxSteps:=9^6)-dsimp only[go_sem,hg,↓q2,aN,aD,aA,c0,c1,c3,g1,q4,c2,hy,aM,forall_eq']
         exact ⟨by omega,by omega,by omega,fin' 5 _ hA (by decide)⟩
        |true=>
         rw[c3] at hA
         simp only[bN,aI] at hA
         simp(maxSteps:=9^6)-dsimp only[go_sem,hg,↓q2,aN,aD,aA,c0,c1,c3,g1,q4,c2,hy,aM,forall_eq']
         refine ⟨by omega,by omega,by omega,?_⟩
         refine aO (α:=Nat) (fun j=>[(2,.va (.c1 (.pt 0 0))),(5,.va (.c1 (.pt 1 0))),(9,iS .i64 k),(10,.va (.c1 (.pt 2 0))),(11,iS .i64 j)])
          (fun _=>[.cells (aA s) 25,.cells (aD t) 50,.cells (aN f) 47])
          (fun j=>j<=k/\((t.fs.take k).drop j).any (fun g=>decide (g.nm=f.nm))=(t.fs.take k).any (fun g=>decide (g.nm=f.nm))) (fun j=>k-j) 0 3 ⟨aP _,rfl⟩ ?_ ?_ ?_
         · simp[go_sem]
         · simp[go_sem,aA,aD,aN]
         have htk:(t.fs.take k).length=k:=by rw[eJ];omega
         rintro j ⟨hj,ho2⟩
         rcases bB j k with hjt|hjg
         · have hgj:decide ((j:Int)<(k:Int))=true:=by simp;omega
           obtain ⟨d,hd⟩:∃e,t.fs[j]? = some e:=⟨_,aX (by omega)⟩
           have hd':(t.fs.take k)[j]? = some d:=by rw[gW,if_pos hjt];exact hd
           have q5:=aS (row:=aN) hd
           rw[eO hd'] at ho2
           simp(maxSteps:=9^6)-dsimp only[go_sem,hgj,↓q5,aN,aD,aA,cK]
           refine ⟨by omega,fun hc=>?_,fun hc=>?_⟩
           · rw[hc,cR] at ho2
             rw[<-ho2] at hA
             exact fin' 7 _ hA (by decide)
           · rw[hc,bK] at ho2
             refine ⟨by omega,aC (j+1) 3 ⟨by omega,ho2⟩ (by omega) ?_ ?_⟩
             · simp[go_sem]
             · simp[go_sem,aA,aD,aN]
         · obtain rfl:j=k:=by omega
           have hgj:decide ((j:Int)<(j:Int))=false:=by simp
           rw[JU (by omega)] at ho2
           rw[<-ho2] at hA
           simp only[aCZ,aI] at hA
           simp(maxSteps:=9^6)-dsimp only[go_sem,hgj,aN,aD,aA,nK,hit,hsf,hsd]
           cases c5:valF s.ss s.es f.ty with
           |true=>
            rw[c5] at hA
            simp(maxSteps:=9^6)-dsimp only[go_sem]
            refine ⟨by omega,aC (j+1) 2 ⟨by omega,fW hA⟩ (by omega) ?_ ?_⟩
            · simp[go_sem]
            · simp[go_sem,aA,aD]
           |false=>
            rw[c5] at hA
            simp(maxSteps:=9^6)-dsimp only[go_sem]
            exact fin' 13 _ hA (by decide)
   · have hg:decide ((k:Int)<(t.fs.length:Int))=false:=by simp;omega
     obtain rfl:k=t.fs.length:=by omega
     rw[sS] at ho
     simp(maxSteps:=9^6)-dsimp only[go_sem,hg,aD]
     exact fin 0 _ (by rw[hF,<-ho])
mutual
def dirF:Ty->List ByteArray
 |.mk k _ n e=>bif k==6||k==7 then [n] else iP e
def iP:List Ty->List ByteArray
 |[]=>[]
 |t::r=>dirF t++iP r
end
theorem B6:∀(a b:List Ty),iP (a++b)=iP a++iP b
 |[],b=>rfl
 |t::r,b=>by rw[sG,iP,iP,B6 r b,gV]
theorem N8:∀{l:List Ty} {t:Ty},t∈l->(dirF t).length<=(iP l).length
 |x::l,t,h=>by
  rw[iP,bW]
  rcases bU.1 h with rfl|h
  · omega
  · have:=N8 h;omega
def aR9 (N:Nat):W.Spec:=fun av H K=>∃t:Ty,av=[.va (.gs (aK t))]/\H=[]/\TyOk t/\t.h<=N/\(dirF t).length<=1000000000/\K (.va (.c1 (.fz ((dirF t).map bH)))) []
theorem aTA {N:Nat} {t:Ty} {K:S->Hp->Prop} (h1:TyOk t) (h2:t.h<=N) (h3:(dirF t).length<=1000000000) (hK:K (.va (.c1 (.fz ((dirF t).map bH)))) []):aR9 N [.va (.gs (aK t))] [] K:=⟨t,rfl,rfl,h1,h2,h3,hK⟩
theorem aRI (l:List ByteArray):∀r∈l.map bH,∀c∈r,c.shut=true/\c.one:=fun r hr c hc=>by
 obtain ⟨x,_,rfl⟩:=dO.1 hr
 simp at hc;subst hc;simp[go_sem,C.shut]
theorem WP:∀N,Meets Tryz.prog 95 (aR9 N)
 |0=>⟨by kernel_rfl,by rintro xs vs E ro w K _ _ _ ⟨t,_,_,_,h,_⟩;have:=t.h_pos;omega⟩
 |N+1=>by
  refine aF Tryz.func95 a6F 1 (by rw[Tryz.ntmps95];decide) (aE (WP N) (aB _)) (fun av H K h=>by obtain ⟨_,rfl,_⟩:=h;rfl) ?_
  rintro av H K ⟨⟨k,s,n,e⟩,rfl,rfl,h1,h2,h3,hK⟩
  have hle:=h1.len
  have hoe:=h1.e
  simp only[Ty.e] at hle hoe
  have hD:=dirF.eq_1 k s n e
  simp(maxSteps:=9^6)-dsimp only[go_sem,aK,aR,aQW,aWA]
  refine ⟨fun c1=>?_,fun c1=>?_⟩
  · rw[c1,aQ] at hD
    rw[hD] at hK
    refine .pub 1 _ _ _ rfl (.sel [] (by simp) (by simp[cS]) rfl (.done ?_))
    simp -dsimp only[go_sem,cS]
    simpa using hK
  · rw[c1,aI] at hD
    rw[hD] at hK h3
    refine dL (α:=Nat) (fun i=>[(1,.va (.c1 (.pt 0 0))),(3,.va (.c1 (.sl 1 (iP (e.take i)).length))),(4,iS .i64 i)]) (fun i=>[.cells (aK (.mk k s n e)) 45,.row ((iP (e.take i)).map bH) 9 1])
     (fun i=>i<=e.length) (fun i=>e.length-i) (.nil 3 9 1 rfl (lA 0 2 (aP _) ?_ ?_)) ?_
    · simp -dsimp only[go_sem]<;>simp[iP]
    · simp -dsimp only[go_sem,aK,aR]<;>simp[iP]
    intro i hi
    rcases bB i e.length with hlt|hge
    · have hg:decide ((i:Int)<(e.length:Int))=true:=by simp;omega
      obtain ⟨u,hx⟩:∃t,e[i]? = some t:=⟨_,aX hlt⟩
      have q1:=aS (row:=aK) hx
      have hu:=cC hx
      have htn:iP (e.take (i+1))=iP (e.take i)++dirF u:=by rw[cM hx,B6];simp[iP]
      have hb:(iP (e.take (i+1))).length<=1000000000:=by
       have:=B6 (e.take (i+1)) (e.drop (i+1))
       rw[sH] at this
       rw[this,bW] at h3;omega
      rw[htn,bW] at hb
      simp(maxSteps:=9^6)-dsimp only[go_sem,hg,↓q1,dR,aK,aR]
      refine ⟨by omega,aTA (hoe u hu) ?_ ?_ ?_⟩
      · have:=Ty.hs_mem hu;rw[Ty.h] at h2;omega
      · have:=N8 hu;omega
      simp(maxSteps:=9^6)-dsimp only[go_sem,kN rE]
      refine ⟨aRI _,by omega,by omega,aC (i+1) 2 (by omega) (by omega) ?_ ?_⟩
      · simp -dsimp only[go_sem,htn]<;>simp
      · simp -dsimp only[go_sem,aK,aR,htn]<;>simp
    · have hg:decide ((i:Int)<(e.length:Int))=false:=by simp;omega
      obtain rfl:i=e.length:=by omega
      rw[eC]
      simp(maxSteps:=9^6)-dsimp only[go_sem,hg,aK,aR]
      rw[<-cE (f:=bH)]
      refine .pub 1 _ _ _ rfl (.sel [] (by simp) (by simp[cS]) rfl (.done ?_))
      simp -dsimp only[go_sem,cS]
      simpa using hK
def aKB:W.Spec:=fun av H K=>∃t:Ty,av=[.va (.gs (aK t))]/\H=[]/\TyOk t/\(dirF t).length<=1000000000/\K (.va (.c1 (.fz ((dirF t).map bH)))) []
theorem aN9 {t:Ty} {K:S->Hp->Prop} (h1:TyOk t) (h3:(dirF t).length<=1000000000) (hK:K (.va (.c1 (.fz ((dirF t).map bH)))) []):aKB [.va (.gs (aK t))] [] K:=⟨t,rfl,rfl,h1,h3,hK⟩
theorem aHJ:Meets Tryz.prog 95 aKB:=dB 0 WP fun _av _H _K ⟨t,e1,e2,h1,h3,hK⟩=>⟨t.h,t,e1,e2,h1,bE _,h3,hK⟩
def iG (x:ByteArray):Bool->List ByteArray->List ByteArray
 |d,[]=>bif d then [] else [x]
 |d,y::r=>bif !d&&(Op.bytesLess (bl x) (bl y)||bl x==bl y) then (bif Op.bytesLess (bl x) (bl y) then x::y::iG x true r else y::iG x true r) else y::iG x d r
theorem SG (x:ByteArray):∀(d:Bool) (l:List ByteArray),(iG x d l).length<=l.length+1
 |d,[]=>by cases d<;>simp[iG]
 |d,y::r=>by
  have h1:=pM x r
  have h2:=SG x d r
  rw[iG]
  cases d<;>cases Op.bytesLess (bl x) (bl y)<;>cases bl x==bl y<;>simp[h1] at h2 ⊢<;>omega
where pM (x:ByteArray):∀l,iG x true l=l
 |[]=>rfl
 |y::r=>by rw[iG,pM x r];rfl
def aTY:W.Spec:=fun av H K=>∃(l:List ByteArray) (x:ByteArray),av=[.va (.c1 (.fz (l.map bH))),tS x]/\H=[]/\l.length<=1000000/\K (.va (.c1 (.fz ((iG x false l).map bH)))) []
theorem aQT {l:List ByteArray} {x:ByteArray} {K:S->Hp->Prop} (h:l.length<=1000000) (hK:K (.va (.c1 (.fz ((iG x false l).map bH)))) []):aTY [.va (.c1 (.fz (l.map bH))),tS x] [] K:=⟨l,x,rfl,rfl,h,hK⟩
theorem a62:Meets Tryz.prog 96 aTY:=by
 refine aF Tryz.func96 a5W 2 (by rw[Tryz.ntmps96];decide) (aB _) (fun av H K h=>by obtain ⟨_,_,rfl,_⟩:=h;rfl) ?_
 rintro av H K ⟨l,x,rfl,rfl,hl,hK⟩
 have hlen:=SG x false l
 simp(maxSteps:=9^6)-dsimp only[go_sem,aVJ,aTZ]
 refine dL (α:=Nat×Bool×List ByteArray) (fun z=>[(0,.va (.c1 (.fz (l.map bH)))),(1,tS x),(5,.va (.c1 (.sl 0 z.2.2.length))),(6,bS z.2.1),(7,iS .i64 z.1)]) (fun z=>[.row (z.2.2.map bH) 9 1])
  (fun z=>z.1<=l.length/\z.2.2++iG x z.2.1 (l.drop z.1)=iG x false l) (fun z=>l.length-z.1) (.nil 5 9 1 rfl (lA (0,false,[]) 1 ⟨aP _,rfl⟩ ?_ ?_)) ?_
 · simp -dsimp only[go_sem]<;>simp
 · simp -dsimp only[go_sem]<;>simp
 rintro ⟨i,d,o⟩ ⟨hi,ho⟩
 simp only at hi ho ⊢
 have hol:o.length<=l.length+1:=by
  have:=congrArg List.length ho
  rw[bW] at this;omega
 rcases bB i l.length with hlt|hge
 · have hg:decide ((i:Int)<(l.length:Int))=true:=by simp;omega
   obtain ⟨y,hx⟩:∃t,l[i]? = some t:=⟨_,aX hlt⟩
   have q1:=aS (row:=bH) hx
   have hdr:l.drop i=y::l.drop (i+1):=by
    obtain ⟨h,rfl⟩:=bT.1 hx
    exact cG h
   rw[hdr,iG] at ho
   have hst:∀(u:ByteArray),[[C.vl (.string u)]]=[u].map bH:=fun _=>rfl
   cases d with
   |true=>
    simp only[bN,bL,aI] at ho
    simp(maxSteps:=9^6)-dsimp only[go_sem,hg,↓q1]
    and_intros
    all_goals first
     |omega
     |skip
    refine aC (i+1,true,o++[y]) 1 ⟨by simp only;omega,by simp only[gV,T8];exact ho⟩ (by simp only;omega) ?_ ?_
    · simp -dsimp only[go_sem]<;>simp
    · simp -dsimp only[go_sem]<;>simp
   |false=>
    simp only[bV,bF] at ho
    cases c2:Op.bytesLess (bl x) (bl y) with
    |true=>
     rw[c2] at ho
     simp only[cR,aQ] at ho
     simp(maxSteps:=9^6)-dsimp only[go_sem,hg,↓q1,c2,cR]
     and_intros
     all_goals first
      |omega
      |skip
     refine aC (i+1,true,o++[x,y]) 1 ⟨by simp only;omega,by simp only[gV,sG,List.nil_append];exact ho⟩ (by simp only;omega) ?_ ?_
     · simp -dsimp only[go_sem]<;>simp
     · simp -dsimp only[go_sem]<;>simp
    |false=>
     rw[c2] at ho
     simp only[bK,aI] at ho
     cases c3:bl x==bl y with
     |true=>
      rw[c3] at ho
      simp only[aQ] at ho
      simp(maxSteps:=9^6)-dsimp only[go_sem,hg,↓q1,c2,c3,bK]
      and_intros
      all_goals first
       |omega
       |skip
      refine aC (i+1,true,o++[y]) 1 ⟨by simp only;omega,by simp only[gV,T8];exact ho⟩ (by simp only;omega) ?_ ?_
      · simp -dsimp only[go_sem]<;>simp
      · simp -dsimp only[go_sem]<;>simp
     |false=>
      rw[c3] at ho
      simp only[aI] at ho
      simp(maxSteps:=9^6)-dsimp only[go_sem,hg,↓q1,c2,c3,bK]
      and_intros
      all_goals first
       |omega
       |skip
      refine aC (i+1,false,o++[y]) 1 ⟨by simp only;omega,by simp only[gV,T8];exact ho⟩ (by simp only;omega) ?_ ?_
      · simp -dsimp only[go_sem]<;>simp
      · simp -dsimp only[go_sem]<;>simp
 · have hg:decide ((i:Int)<(l.length:Int))=false:=by simp;omega
   obtain rfl:i=l.length:=by omega
   rw[dT] at ho
   simp only[iG] at ho
   cases d with
   |true=>
    simp only[aQ,fI] at ho
    rw[<-ho] at hK
    simp(maxSteps:=9^6)-dsimp only[go_sem,hg]
    rw[<-cE (f:=bH)]
    refine .pub 0 _ _ _ rfl (.sel [] (by simp) (by simp[cS]) rfl (.done ?_))
    simp -dsimp only[go_sem,cS]
    simpa using hK
   |false=>
    simp only[aI] at ho
    rw[<-ho] at hK
    simp(maxSteps:=9^6)-dsimp only[go_sem,hg]
    refine ⟨by omega,?_⟩
    have e1:o.length+1=((o++[x]).map bH).length:=by simp
    have e2:o.map bH++[[C.vl (.string x)]]=(o++[x]).map bH:=by simp
    rw[e1,e2]
    refine .pub 0 _ _ _ rfl (.sel [] (by simp) (by simp[cS]) rfl (.done ?_))
    simp -dsimp only[go_sem,cS]
    simpa using hK
abbrev FT (a b:ByteArray):Prop:=bl a<bl b
theorem aQ3 (x:List UInt8):∀y:List UInt8,Op.bytesLess x y=decide (x<y):=by
 induction x with
 |nil=>intro y;cases y<;>simp[Op.bytesLess]
 |cons a x ih=>
  intro y
  cases y with
  |nil=>simp[Op.bytesLess]
  |cons b y=>
   have:=ih y
   rw[Op.bytesLess,this,Bool.eq_iff_iff]
   simp[List.cons_lt_cons_iff]
theorem EN (a b:ByteArray):Op.bytesLess (bl a) (bl b)=decide (FT a b):=aQ3 _ _
theorem lS (a:ByteArray):¬ FT a a:=List.lt_irrefl _
theorem wV {a b c:ByteArray} (h:FT a b) (h2:FT b c):FT a c:=List.lt_trans h h2
theorem CG {a b:ByteArray} (h:¬ FT a b) (h2:a≠b):FT b a:=by
 have h3:bl b<=bl a:=List.not_lt.1 h
 exact Std.lt_of_le_of_ne h3 (fun e=>h2 (mY e.symm))
def Asc (l:List ByteArray):Prop:=l.Pairwise FT
theorem U7:∀{a b:List ByteArray},Asc a->Asc b->(∀x,x∈a ↔ x∈b)->a=b
 |[],[],_,_,_=>rfl
 |[],y::b,_,_,h=>by have:=(h y).2 eI;cases this
 |x::a,[],_,_,h=>by have:=(h x).1 eI;cases this
 |x::a,y::b,h1,h2,h=>by
  obtain ⟨p1,p2⟩:=gU.1 h1
  obtain ⟨p3,p4⟩:=gU.1 h2
  have e:x=y:=by
   rcases bU.1 ((h x).1 eI) with e|e
   · exact e
   · rcases bU.1 ((h y).2 eI) with e2|e2
     · exact e2.symm
     · exact absurd (wV (p1 y e2) (p3 x e)) (lS x)
  subst e
  rw[U7 p2 p4 fun z=>?_]
  constructor
  · intro hz
    rcases bU.1 ((h z).1 (eD _ hz)) with e|e
    · exact absurd (p1 z hz) (by rw[e];exact lS x)
    · exact e
  · intro hz
    rcases bU.1 ((h z).2 (eD _ hz)) with e|e
    · exact absurd (p3 z hz) (by rw[e];exact lS x)
    · exact e
theorem Asc.nodup {l:List ByteArray} (h:Asc l):l.Nodup:=by
 unfold List.Nodup
 refine List.Pairwise.imp ?_ h
 intro a b h e
 subst e
 exact lS a h
theorem pM (x:ByteArray):∀l,iG x true l=l
 |[]=>rfl
 |y::r=>by rw[iG,pM x r];rfl
theorem oX {x z:ByteArray}:∀{l:List ByteArray},z∈iG x false l ↔ z=x\/z∈l
 |[]=>by simp[iG]
 |y::r=>by
  rw[iG,pM]
  cases c1:Op.bytesLess (bl x) (bl y) with
  |true=>simp
  |false=>
   cases c2:bl x==bl y with
   |true=>
    have:x=y:=mY (by simpa using c2)
    subst this
    simp
   |false=>
    have:=oX (x:=x) (z:=z) (l:=r)
    simp[this]
    constructor
    · rintro (h|h|h)
      · exact .inr (.inl h)
      · exact .inl h
      · exact .inr (.inr h)
    · rintro (h|h|h)
      · exact .inr (.inl h)
      · exact .inl h
      · exact .inr (.inr h)
theorem R9 {x:ByteArray}:∀{l:List ByteArray},Asc l->Asc (iG x false l)
 |[],_=>by simp[iG,Asc]
 |y::r,h=>by
  obtain ⟨p1,p2⟩:=gU.1 h
  rw[iG,pM]
  cases c1:Op.bytesLess (bl x) (bl y) with
  |true=>
   rw[EN] at c1
   have c1:=iO c1
   simp only[bV,cR,eZ,aQ]
   refine gU.2 ⟨fun z hz=>?_,h⟩
   rcases bU.1 hz with rfl|hz
   · exact c1
   · exact wV c1 (p1 z hz)
  |false=>
   cases c2:bl x==bl y with
   |true=>exact h
   |false=>
    rw[EN] at c1
    have c1:=gL c1
    have c2:x≠y:=fun e=>by subst e;simp at c2
    simp only[bV,bF,uG,aI]
    refine gU.2 ⟨fun z hz=>?_,R9 p2⟩
    rcases oX.1 hz with rfl|hz
    · exact CG c1 c2
    · exact p1 z hz
theorem aGG {l:List ByteArray} (h:l.Nodup):Asc (iQ l):=by
 have h1:((l.map bl).mergeSort fun x y=>decide (x<=y)).Pairwise fun a b=>decide (a<=b)=true:=
  List.pairwise_mergeSort (le:=fun (x y:List UInt8)=>decide (x<=y)) (fun (a b c:List UInt8) h1 h2=>eE (List.le_trans (iO h1) (iO h2))) (fun (a b:List UInt8)=>by
   rcases List.le_total a b with h|h<;>simp[h]) _
 have h2:((l.map bl).mergeSort fun x y=>decide (x<=y)).Nodup:=by
  rw[(List.mergeSort_perm _ _).nodup_iff]
  exact List.Pairwise.map bl (fun a b (hab:a≠b) e=>hab (mY e)) h
 unfold iQ Asc
 rw[List.pairwise_map]
 refine List.Pairwise.imp₂ (fun a b h1 h2=>?_) h1 h2
 exact Std.lt_of_le_of_ne (iO h1) h2
theorem aA7 (ss:List St) (n:ByteArray):Asc (dA ss n):=aGG (CL ss n)
theorem aBE {e:List Ty} (h:((e.length:Int)==0)=true):e=[]:=by simpa using h
theorem VA (ss:List St) (es:List En):∀(N:Nat) (t:Ty),t.h<=N->valF ss es t=true->dirF t=bif cA t then [bQ t] else []
 |0,t,h,_=>absurd h (by have:=t.h_pos;omega)
 |N+1,.mk k s n e,h,hv=>by
  cases k5:k==5 with
  |true=>
   obtain rfl:k=5:=by simpa using k5
   obtain ⟨u,rfl,hu⟩:=G3 hv
   have:=VA ss es N u (by rw[Ty.h,Ty.hs,Ty.hs] at h;omega) hu
   unfold cA bQ
   rw[wM]
   rw[dirF,iP,iP,fI,this]
   rfl
  |false=>
   have h1:eQ (.mk k s n e)=.mk k s n e:=tJ (by rw[k5];rfl)
   unfold cA bQ
   rw[h1,dirF]
   simp only[Ty.k,Ty.n]
   cases k67:(k==6||k==7) with
   |true=>rfl
   |false=>
    have he:e=[]:=by
     rw[cY] at k67
     rw[valF,k5,k67.1,k67.2] at hv
     cases k1:k==1<;>cases k2:k==2<;>cases k3:k==3<;>cases k4:k==4<;>rw[k1,k2,k3,k4] at hv<;>simp only[aQ,aI,bI,reduceCtorEq] at hv<;>first|exact aBE hv.2|exact absurd hv (by decide)
    subst he;rfl
theorem R7 {ss:List St} {es:List En} {t:Ty} (hv:valF ss es t=true):dirF t=bif cA t then [bQ t] else []:=VA ss es t.h t (bE _) hv
structure UI (ss:List St) (n:ByteArray) (i:Nat) (todo o:List ByteArray):Prop where
 hd:∃r,todo=n::r/\r.Nodup/\∀x,x∈o ↔ x∈r
 rc:∀x∈o,Reach ss n x
 dn:∀j a,j<i->todo[j]? = some a->∀y,fG ss a y->y∈o
 asc:Asc o
theorem UI.init (ss:List St) (n:ByteArray):UI ss n 0 [n] []:=⟨⟨[],rfl,.nil,fun _x=>Iff.rfl⟩,fun _x h=>(List.not_mem_nil h).elim,fun _j _a h=>absurd h (uF _),List.Pairwise.nil⟩
theorem aAE {ss:List St} {es:List En} (g:Gd ss es) {n:ByteArray} {l:List ByteArray} (h:l.Nodup) (hr:∀x∈l,Reach ss n x):l.length<=32:=dM (CR h fun x hx=>(nM ss n x).2 (hr x hx)) (g.vlen n)
theorem UI.len {ss:List St} {es:List En} (g:Gd ss es) {n:ByteArray} {i:Nat} {todo o:List ByteArray} (h:UI ss n i todo o):todo.length<=33/\o.length<=32:=by
 obtain ⟨r,rfl,h1,h2⟩:=h.hd
 have:=aAE g h1 fun x hx=>h.rc x ((h2 x).2 hx)
 have:=aAE g h.asc.nodup h.rc
 simp only[bP];omega
theorem UI.rch {ss:List St} {n:ByteArray} {i k:Nat} {todo o:List ByteArray} (h:UI ss n i todo o) {a y:ByteArray} (ha:todo[k]? = some a) (hy:fG ss a y):Reach ss n y:=by
 obtain ⟨r,rfl,h1,h2⟩:=h.hd
 cases k with
 |zero=>simp at ha;subst ha;exact .one hy
 |succ k=>
  simp at ha
  exact .more (h.rc a ((h2 a).2 (cC ha))) hy
theorem UI.add {ss:List St} {n:ByteArray} {i:Nat} {todo o:List ByteArray} (h:UI ss n i todo o) {y:ByteArray} (hr:Reach ss n y) (hy:y ∉ o) (hi:i<=todo.length):UI ss n i (todo++[y]) (iG y false o):=by
 obtain ⟨r,rfl,h1,h2⟩:=h.hd
 refine ⟨⟨r++[y],by simp,?_,fun x=>?_⟩,fun x hx=>?_,fun j a hj ha z hz=>?_,R9 h.asc⟩
 · rw[List.nodup_append]
   exact ⟨h1,by simp,fun a ha b hb=>by simp at hb;subst hb;exact fun e=>hy ((h2 b).2 (e ▸ ha))⟩
 · rw[oX,h2];simp[or_comm]
 · rcases oX.1 hx with rfl|hx
   · exact hr
   · exact h.rc x hx
 · rw[lY (by omega)] at ha
   exact oX.2 (.inr (h.dn j a hj ha z hz))
theorem UI.next {ss:List St} {n:ByteArray} {i:Nat} {todo o:List ByteArray} (h:UI ss n i todo o) {a:ByteArray} (ha:todo[i]? = some a) (hy:∀y,fG ss a y->y∈o):UI ss n (i+1) todo o:=by
 refine ⟨h.hd,h.rc,fun j b hj hb y hyb=>?_,h.asc⟩
 rcases bB j i with h4|h4
 · exact h.dn j b h4 hb y hyb
 · obtain rfl:j=i:=by omega
   rw[ha] at hb;obtain rfl:=dV hb
   exact hy y hyb
theorem UI.fin {ss:List St} {n:ByteArray} {todo o:List ByteArray} (h:UI ss n todo.length todo o):o=dA ss n:=by
 refine U7 h.asc (aA7 ss n) fun x=>?_
 rw[pI]
 refine ⟨h.rc x,fun hx=>?_⟩
 obtain ⟨r,e,h1,h2⟩:=h.hd
 have hn:∀y,fG ss n y->y∈o:=h.dn 0 n (by rw[e];simp) (by rw[e];rfl)
 induction hx with
 |one h=>exact hn _ h
 |more _ h3 ih=>
  obtain ⟨j,hj⟩:=eN.1 ((h2 _).1 ih)
  rename_i b c _
  have hj2:todo[j+1]? = some b:=by rw[e];simpa using hj
  exact h.dn (j+1) _ (bT.1 hj2).1 hj2 _ h3
def aTS:W.Spec:=fun av H K=>∃(s:Sc) (n:ByteArray),av=[.va (.gs (aA s)),tS n]/\H=[]/\s.fit/\Gd s.ss s.es/\K (.va (.c1 (.fz ((dA s.ss n).map bH)))) []
theorem aB0 {s:Sc} {n:ByteArray} {K:S->Hp->Prop} (h:s.fit) (g:Gd s.ss s.es) (hK:K (.va (.c1 (.fz ((dA s.ss n).map bH)))) []):aTS [.va (.gs (aA s)),tS n] [] K:=⟨s,n,rfl,rfl,h,g,hK⟩
theorem aQE {ss:List St} {es:List En} {t:Ty} (hv:valF ss es t=true):(dirF t).length<=1:=by
 rw[R7 hv];cases cA t<;>simp
theorem W8 {ss:List St} {es:List En} {t:Ty} (hv:valF ss es t=true) {y:ByteArray}:y∈dirF t ↔ cA t=true/\bQ t=y:=by
 rw[R7 hv];cases cA t<;>simp[eq_comm]
theorem aJD:Meets Tryz.prog 53 aTS:=by
 refine aF Tryz.func53 a64 2 (by rw[Tryz.ntmps53];decide) (aE mR (aE aHJ (aG aE7 (aE a62 (aB _))))) (fun av H K h=>by obtain ⟨_,_,rfl,_⟩:=h;rfl) ?_
 rintro av H K ⟨s,n,rfl,rfl,hs,g,hK⟩
 simp(maxSteps:=9^6)-dsimp only[go_sem,aA,aWF,aWL]
 refine dL (α:=Nat×List ByteArray×List ByteArray) (fun z=>[(2,.va (.c1 (.pt 0 0))),(5,.va (.c1 (.fz (z.2.2.map bH)))),(6,.va (.c1 (.sl 1 z.2.1.length))),(7,iS .i64 z.1)]) (fun z=>[.cells (aA s) 25,.row (z.2.1.map bH) 9 1])
  (fun z=>z.1<=z.2.1.length/\UI s.ss n z.1 z.2.1 z.2.2) (fun z=>34-z.1) (.nf 5 (lA (0,[n],[]) 2 ⟨aP _,UI.init _ _⟩ ?_ ?_)) ?_
 · simp -dsimp only[go_sem]<;>simp
 · simp -dsimp only[go_sem,aA]<;>simp
 rintro ⟨i,todo,o⟩ ⟨hi,hu⟩
 simp only at hi hu ⊢
 obtain ⟨htl,hol⟩:=hu.len g
 rcases bB i todo.length with hlt|hge
 · have hg:decide ((i:Int)<(todo.length:Int))=true:=by simp;omega
   obtain ⟨a,ha⟩:∃a,todo[i]? = some a:=⟨_,aX hlt⟩
   have q1:=aS (row:=bH) ha
   simp(maxSteps:=9^6)-dsimp only[go_sem,hg,aA,ha,aM,forall_eq']
   refine ⟨by omega,hlt,dJ hs ?_⟩
   generalize hx:(fS s.ss a).getD default=x
   have hxf:∀f∈x.fs,f.ok/\valF s.ss s.es f.ty=true:=fun f hf=>by
    cases hc:fS s.ss a with
    |none=>rw[hc] at hx;subst hx;cases hf
    |some t=>
     rw[hc] at hx
     subst hx
     exact ⟨(hs.ok.ss _ (fQ hc).1).fs f hf,g.val _ (fQ hc).1 f hf⟩
   have hxl:x.fs.length<=9223372036854775807:=by
    cases hc:fS s.ss a with
    |none=>rw[hc] at hx;subst hx;exact aP _
    |some t=>rw[hc] at hx;subst hx;exact (hs.ok.ss _ (fQ hc).1).len
   have hxr:∀y,fG s.ss a y ↔ LJ x y:=fun y=>by unfold fG;rw[hx]
   simp(maxSteps:=9^6)-dsimp only[go_sem,aD]
   refine aO (α:=Nat×List ByteArray×List ByteArray) (fun z=>[(2,.va (.c1 (.pt 0 0))),(5,.va (.c1 (.fz (z.2.2.map bH)))),(6,.va (.c1 (.sl 1 z.2.1.length))),(7,iS .i64 i),(8,.va (.c1 (.pt 2 0))),(10,iS .i64 z.1)]) (fun z=>[.cells (aA s) 25,.row (z.2.1.map bH) 9 1,.cells (aD x) 50])
    (fun z=>z.1<=x.fs.length/\z.2.1[i]? = some a/\UI s.ss n i z.2.1 z.2.2/\∀f∈x.fs.take z.1,cA f.ty=true->bQ f.ty∈z.2.2) (fun z=>x.fs.length-z.1) (0,todo,o) 3 ⟨aP _,ha,hu,fun f hf=>by cases hf⟩ ?_ ?_ ?_
   · simp -dsimp only[go_sem]<;>simp
   · simp -dsimp only[go_sem,aA,aD]<;>simp
   clear hu ha hlt hi htl hol hg q1
   rintro ⟨k,td,o⟩ ⟨hk,ha,hu,hr⟩
   simp only at hk ha hu hr ⊢
   obtain ⟨htl,hol⟩:=hu.len g
   have hil:=(bT.1 ha).1
   rcases bB k x.fs.length with hlt|hge
   · have hg:decide ((k:Int)<(x.fs.length:Int))=true:=by simp;omega
     obtain ⟨f,hf⟩:∃a,x.fs[k]? = some a:=⟨_,aX hlt⟩
     have q1:=aS (row:=aN) hf
     obtain ⟨hfo,hfv⟩:=hxf f (cC hf)
     simp(maxSteps:=9^6)-dsimp only[go_sem,hg,↓q1,aA,aD,aN,nK]
     have hdl:=aQE hfv
     refine ⟨by omega,aN9 hfo.ty (by omega) ?_⟩
     simp(maxSteps:=9^6)-dsimp only[go_sem]
     have hdm:∀y∈dirF f.ty,Reach s.ss n y:=fun y hy=>by
      obtain ⟨h1,h2⟩:=(W8 hfv).1 hy
      exact hu.rch ha ((hxr y).2 ⟨f,cC hf,h1,h2⟩)
     have hdf:(∀o':List ByteArray,(∀y∈dirF f.ty,y∈o')->(∀f∈x.fs.take k,cA f.ty=true->bQ f.ty∈o')->∀f∈x.fs.take (k+1),cA f.ty=true->bQ f.ty∈o'):=fun o' h1 h2 f' hf' hn=>by
      rw[cM hf] at hf'
      rcases cL.1 hf' with h|h
      · exact h2 f' h hn
      · obtain rfl:f'=f:=by simpa using h
        exact h1 _ ((W8 hfv).2 ⟨hn,rfl⟩)
     generalize dirF f.ty=l at *
     refine aO (α:=Nat×List ByteArray×List ByteArray) (fun z=>[(2,.va (.c1 (.pt 0 0))),(5,.va (.c1 (.fz (z.2.2.map bH)))),(6,.va (.c1 (.sl 1 z.2.1.length))),(7,iS .i64 i),(8,.va (.c1 (.pt 2 0))),(10,iS .i64 k),(11,.va (.c1 (.fz (l.map bH)))),(12,iS .i64 z.1)]) (fun z=>[.cells (aA s) 25,.row (z.2.1.map bH) 9 1,.cells (aD x) 50])
      (fun z=>z.1<=l.length/\z.2.1[i]? = some a/\UI s.ss n i z.2.1 z.2.2/\(∀f∈x.fs.take k,cA f.ty=true->bQ f.ty∈z.2.2)/\∀y∈l.take z.1,y∈z.2.2) (fun z=>l.length-z.1) (0,td,o) 3 ⟨aP _,ha,hu,hr,fun f hf=>by cases hf⟩ ?_ ?_ ?_
     · simp -dsimp only[go_sem]<;>simp
     · simp -dsimp only[go_sem,aA,aD]<;>simp
     clear hu ha hil htl hol hg q1 hr
     rintro ⟨j,td,o⟩ ⟨hj,ha,hu,hr,hjm⟩
     simp only at hj ha hu hr hjm ⊢
     obtain ⟨htl,hol⟩:=hu.len g
     have hil:=(bT.1 ha).1
     rcases bB j l.length with hjt|hjg
     · have hg:decide ((j:Int)<(l.length:Int))=true:=by simp;omega
       obtain ⟨y,hy⟩:∃a,l[j]? = some a:=⟨_,aX hjt⟩
       have q1:=aS (row:=bH) hy
       have hbs:xH (o.map bH):=rJ (by omega)
       have e0:(0<=(o.length:Int))=True:=by simp
       have e1:((o.length:Int)<=9223372036854775807)=True:=by simp;omega
       have hto:o.take o.length=o:=eC
       have hjm':∀o':List ByteArray,(∀z∈o,z∈o')->y∈o'->∀z∈l.take (j+1),z∈o':=fun o' h1 h2 z hz=>by
        rw[cM hy] at hz
        rcases cL.1 hz with h|h
        · exact h1 z (hjm z h)
        · obtain rfl:z=y:=by simpa using h
          exact h2
       cases hc:bJ o y with
       |true=>
        simp(maxSteps:=9^6)-dsimp only[go_sem,hg,↓q1,aA,aD,hbs,e0,e1,cP,hto,hc]
        refine ⟨by omega,by omega,aC (j+1,td,o) 3 ⟨by simp only;omega,ha,hu,hr,hjm' o (fun z h=>h) ((m6 _ _).1 hc)⟩ (by simp only;omega) ?_ ?_⟩
        · simp -dsimp only[go_sem]<;>simp
        · simp -dsimp only[go_sem,aA,aD]<;>simp
       |false=>
        have hyo:=D7.1 hc
        have hua:=hu.add (hdm y (cC hy)) hyo (by omega)
        have hmo:∀z∈o,z∈iG y false o:=fun z hz=>oX.2 (.inr hz)
        have ha':(td++[y])[i]? = some a:=by rw[lY hil];exact ha
        simp(maxSteps:=9^6)-dsimp only[go_sem,hg,↓q1,aA,aD,hbs,e0,e1,cP,hto,hc]
        refine ⟨by omega,by omega,aQT (by omega) ?_⟩
        simp(maxSteps:=9^6)-dsimp only[go_sem]
        and_intros
        all_goals first
         |omega
         |skip
        refine aC (j+1,td++[y],iG y false o) 3 ⟨by simp only;omega,ha',hua,fun f hf hn=>hmo _ (hr f hf hn),hjm' _ hmo (oX.2 (.inl rfl))⟩ (by simp only;omega) ?_ ?_
        · simp -dsimp only[go_sem]<;>simp
        · simp -dsimp only[go_sem,aA,aD]<;>simp
     · have hg:decide ((j:Int)<(l.length:Int))=false:=by simp;omega
       obtain rfl:j=l.length:=by omega
       rw[eC] at hjm
       simp(maxSteps:=9^6)-dsimp only[go_sem,hg,aA,aD]
       refine ⟨by omega,aC (k+1,td,o) 3 ⟨by simp only;omega,ha,hu,hdf o hjm hr⟩ (by simp only;omega) ?_ ?_⟩
       · simp -dsimp only[go_sem]<;>simp
       · simp -dsimp only[go_sem,aA,aD]<;>simp
   · have hg:decide ((k:Int)<(x.fs.length:Int))=false:=by simp;omega
     obtain rfl:k=x.fs.length:=by omega
     rw[eC] at hr
     simp(maxSteps:=9^6)-dsimp only[go_sem,hg,aA,aD]
     refine ⟨by omega,aC (i+1,td,o) 2 ⟨by simp only;omega,hu.next ha fun y hy=>?_⟩ (by simp only;omega) ?_ ?_⟩
     · obtain ⟨f,h1,h2,rfl⟩:=(hxr y).1 hy
       exact hr f h1 h2
     · simp -dsimp only[go_sem]<;>simp
     · simp -dsimp only[go_sem,aA]<;>simp
 · have hg:decide ((i:Int)<(todo.length:Int))=false:=by simp;omega
   obtain rfl:i=todo.length:=by omega
   obtain rfl:=hu.fin
   simp(maxSteps:=9^6)-dsimp only[go_sem,hg,aA]
   exact .z ((by simpa[go_sem] using hK))
def gM:List St->List Int->ByteArray->Int
 |s::ss,d::ds,n=>bif decide (s.nm=n) then d else gM ss ds n
 |_,_,_=>0
theorem aF2 {ss:List St} {ds:List Int} {i:Nat} {x:St} {d:Int} (hx:ss[i]? = some x) (hd:ds[i]? = some d) (n:ByteArray):gM (ss.drop i) (ds.drop i) n=bif decide (x.nm=n) then d else gM (ss.drop (i+1)) (ds.drop (i+1)) n:=by
 obtain ⟨h,rfl⟩:=bT.1 hx
 obtain ⟨h2,rfl⟩:=bT.1 hd
 rw[cG h,cG h2];rfl
theorem aOP {ss:List St} {ds:List Int} (n:ByteArray):gM (ss.drop ss.length) ds n=0:=by rw[dT];simp[gM]
theorem GE {n:ByteArray}:∀{ss:List St} {ds:List Int},fS ss n=none->gM ss ds n=0
 |[],_,_=>by simp[gM]
 |s::ss,[],_=>by simp[gM]
 |s::ss,d::ds,h=>by
  unfold fS at h
  rw[nQ] at h
  rw[gM]
  cases hc:decide (s.nm=n) with
  |true=>rw[hc] at h;simp at h
  |false=>rw[hc] at h;exact GE (ss:=ss) h
theorem G8 {n:ByteArray} {u:St}:∀{ss:List St} {ds:List Int},ss.length=ds.length->fS ss n=some u->∃j:Nat,ss[j]? = some u/\ds[j]? = some (gM ss ds n)
 |[],_,_,h=>by cases h
 |s::ss,[],hl,_=>by simp at hl
 |s::ss,d::ds,hl,h=>by
  unfold fS at h
  rw[nQ] at h
  rw[gM]
  cases hc:decide (s.nm=n) with
  |true=>
   rw[hc] at h
   obtain rfl:s=u:=by simpa using h
   exact ⟨0,rfl,rfl⟩
  |false=>
   rw[hc] at h
   obtain ⟨j,h1,h2⟩:=G8 (ss:=ss) (ds:=ds) (by simpa using hl) h
   exact ⟨j+1,by simpa using h1,by simpa using h2⟩
def X8 (rs:List (List C)):Prop:=∃l:List Int,rs=l.map cV
def OX (N:Nat):List S->Prop:=fun av=>match av with
 |[.va (.gs r),.va (.c1 (.fz ds)),.va (.gs q)]=>kF r/\(X8 ds/\ds.length=(C.sc r).ss.length/\∀d∈ds.map C.it,0<=d/\d<=1000000000000)/\dG q/\(cJ (C.ty q)).1<=1000000000/\(C.ty q).h<=N
 |_=>False
theorem tM {N:Nat} {av:List S} (h:OX N av):∃(s:Sc) (l:List Int) (t:Ty),av=[.va (.gs (aA s)),.va (.c1 (.fz (l.map cV))),.va (.gs (aK t))]/\s.fit/\(l.length=s.ss.length/\∀d∈l,0<=d/\d<=1000000000000)/\TyOk t/\(cJ t).1<=1000000000/\t.h<=N:=by
 unfold OX at h
 split at h
 · obtain ⟨⟨a,rfl,ha⟩,⟨⟨l,rfl⟩,h1,h2⟩,⟨b,rfl,hb⟩,h3,h4⟩:=h
   rw[eF] at h3 h4
   rw[cT] at h1
   rw[yA] at h2
   exact ⟨a,l,b,rfl,ha,⟨by simpa using h1,h2⟩,hb,h3,h4⟩
 · exact h.elim
noncomputable def YI:List S->A:=fun av=>match av with
 |[.va (.gs r),.va (.c1 (.fz ds)),.va (.gs q)]=>iA .i64 (cW (gM (C.sc r).ss (ds.map C.it)) (C.ty q))
 |_=>.gs []
noncomputable def YM (N:Nat):Fun:=⟨OX N,YI,fun av h=>by obtain ⟨a,l,b,rfl,_⟩:=tM h;trivial⟩
theorem aHX {N:Nat}:∀av H K,(YM N).sp av H K->av.length=3:=fun av H K h=>by obtain ⟨a,l,b,rfl,_⟩:=tM h.1.1;rfl
attribute [go_sem] YM OX YI
theorem TG {s:Int} {n:ByteArray} {u:Ty} {r:List Ty}:cJ (.mk 5 s n (u::r))=((cJ u).1+1,(cJ u).2):=by simp[cJ,N2]
theorem aGN {k s:Int} {n:ByteArray} {e:List Ty} (h:(k==5&&decide (0<(e.length:Int)))=false):cJ (.mk k s n e)=(0,.mk k s n e):=by
 rw[cJ]
 cases hk:k==5 with
 |false=>rfl
 |true=>
  rw[hk,bF] at h
  have:e=[]:=T7.1 (by simp at h;simp[h])
  subst this;rfl
theorem Z7 {dp:ByteArray->Int} {s:Int} {n:ByteArray} {u:Ty} {r:List Ty}:cW dp (.mk 5 s n (u::r))=1+cW dp u:=by unfold cW;rw[TG];simp only;omega
theorem FE:∀N,Meets Tryz.prog 97 (YM N).sp
 |0=>⟨by kernel_rfl,by rintro xs vs E ro w K _ _ _ ⟨⟨h,_⟩,_⟩;obtain ⟨_,_,a,_,_,_,_,_,h⟩:=tM h;have:=a.h_pos;omega⟩
 |N+1=>by
  refine aF Tryz.func97 a80 3 (by rw[Tryz.ntmps97];decide) (aG (FE N) (aB _)) aHX ?_
  rintro av H K ⟨⟨h,rfl⟩,hK⟩
  obtain ⟨sc,l,t,rfl,hs,⟨hl,hb⟩,ht,hlv,hh⟩:=tM h
  have hK:K (iS .i64 (cW (gM sc.ss l) t)) []:=by
   have:(YM (N+1)).val [.va (.gs (aA sc)),.va (.c1 (.fz (l.map cV))),.va (.gs (aK t))]=iA .i64 (cW (gM sc.ss l) t):=by simp -dsimp only[go_sem,yA]
   rw[this] at hK;exact hK
  clear h
  have hls:=hs.ok.ls
  have fin:∀(b:Int) (R:Hp),cW (gM sc.ss l) t=b->W.Fin 0 K (iS .i64 b) R:=fun b R h=>by
   rw[h] at hK
   exact .z ((by simp -dsimp only[go_sem];simpa using hK))
  have hsf:=cN hs
  rw[aA] at hsf
  have hsd:=cT sc
  rw[aA] at hsd
  obtain ⟨k,s,n,e⟩:=t
  have hte:=ht.e
  have hte2:=ht.len
  simp only[Ty.e] at hte hte2
  have hin:X8 (l.map cV):=⟨l,rfl⟩
  have hr1:((l.map cV).length=sc.ss.length)=True:=by simp[hl]
  have hr2:(∀d:Int,d∈l->0<=d/\d<=1000000000000)=True:=eq_true hb
  simp(maxSteps:=9^6)-dsimp only[go_sem,aA,aK,aR,aWM,aSR]
  cases c1:(k==5&&decide (0<(e.length:Int))) with
  |true=>
   simp only[bI,beq_iff_eq,fU] at c1
   obtain ⟨rfl,c1⟩:=c1
   obtain ⟨u,r,rfl⟩:∃u r,e=u::r:=by
    cases e with
    |nil=>simp at c1
    |cons u r=>exact ⟨u,r,rfl⟩
   rw[TG] at hlv
   have hux:(u::r)[0]? = some u:=rfl
   have q1:=xZ (row:=aK) hux
   have hu:dG (aK u):=bM (hte u eI)
   have huh:u.h<=N:=by rw[Ty.h,Ty.hs] at hh;omega
   refine ⟨fun _=>?_,fun h=>by simp at h⟩
   have hul:((cJ u).1<=1000000000)=True:=eq_true (by simp only at hlv;omega)
   have huh':(u.h<=N)=True:=eq_true huh
   have hfb:cW (gM sc.ss l) u<=1001000000000/\0<=cW (gM sc.ss l) u:=by
    have hd:gM sc.ss l (cJ u).2.n<=1000000000000/\0<=gM sc.ss l (cJ u).2.n:=by
     cases hf:fS sc.ss (cJ u).2.n with
     |none=>rw[GE hf];omega
     |some v=>
      obtain ⟨j,_,h2⟩:=G8 hl.symm hf
      have:=hb _ (cC h2);omega
    simp only at hlv
    unfold cW
    cases (cJ u).2.k==6<;>simp only[aQ,aI]<;>omega
   simp(maxSteps:=9^6)-dsimp only[go_sem,dR]
   refine ⟨by omega,fun x hx=>?_⟩
   subst hx
   simp only[hsd]
   exact ⟨⟨hsf,⟨hin,hl,hb⟩,hu,by simp only at hlv;omega,huh⟩,by omega,fin _ _ Z7⟩
  |false=>
   have hst:=aGN (s:=s) (n:=n) c1
   have hfd:cW (gM sc.ss l) (.mk k s n e)=bif k==6 then gM sc.ss l n else 0:=by unfold cW;rw[hst];simp[Ty.k,Ty.n]
   refine ⟨fun h=>by simp at h,fun _=>?_⟩
   cases k6:k==6 with
   |false=>
    rw[k6,aI] at hfd
    refine aO (α:=Nat) (fun i=>[(1,.va (.c1 (.fz (l.map cV)))),(3,.va (.c1 (.pt 0 0))),(5,.va (.c1 (.pt 1 0))),(7,iS .i64 i)]) (fun _=>[.cells (aA sc) 25,.cells (aK (.mk k s n e)) 45])
     (fun i=>i<=sc.ss.length) (fun i=>sc.ss.length-i) 0 2 (aP _) ?_ ?_ ?_
    · simp -dsimp only[go_sem]<;>simp
    · simp -dsimp only[go_sem,aA,aK,aR]<;>simp
    intro i hi
    rcases bB i sc.ss.length with hlt|hge
    · have hg:decide ((i:Int)<(sc.ss.length:Int))=true:=by simp;omega
      simp(maxSteps:=9^6)-dsimp only[go_sem,hg,aA,aK,aR,k6]
      and_intros
      all_goals first
       |omega
       |skip
      refine aC (i+1) 2 (by omega) (by omega) ?_ ?_
      · simp -dsimp only[go_sem]<;>simp
      · simp -dsimp only[go_sem,aA,aK,aR]<;>simp
    · have hg:decide ((i:Int)<(sc.ss.length:Int))=false:=by simp;omega
      simp(maxSteps:=9^6)-dsimp only[go_sem,hg,aA,aK,aR]
      exact fin 0 _ hfd
   |true=>
    rw[k6,aQ] at hfd
    refine aO (α:=Nat) (fun i=>[(1,.va (.c1 (.fz (l.map cV)))),(3,.va (.c1 (.pt 0 0))),(5,.va (.c1 (.pt 1 0))),(7,iS .i64 i)]) (fun _=>[.cells (aA sc) 25,.cells (aK (.mk k s n e)) 45])
     (fun i=>i<=sc.ss.length/\gM (sc.ss.drop i) (l.drop i) n=gM sc.ss l n) (fun i=>sc.ss.length-i) 0 2 ⟨aP _,rfl⟩ ?_ ?_ ?_
    · simp -dsimp only[go_sem]<;>simp
    · simp -dsimp only[go_sem,aA,aK,aR]<;>simp
    rintro i ⟨hi,ho⟩
    rcases bB i sc.ss.length with hlt|hge
    · have hg:decide ((i:Int)<(sc.ss.length:Int))=true:=by simp;omega
      obtain ⟨t,hx⟩:∃e,sc.ss[i]? = some e:=⟨_,aX hlt⟩
      obtain ⟨d,hd⟩:∃e,l[i]? = some e:=⟨_,aX (by omega)⟩
      have q2:=aS (row:=aD) hx
      have q3:=aS (row:=cV) hd
      rw[aF2 hx hd] at ho
      cases hc:decide (t.nm=n) with
      |true=>
       rw[hc,aQ] at ho
       simp(maxSteps:=9^6)-dsimp only[go_sem,hg,↓q2,↓q3,aD,aA,aK,aR,cK,hc,k6]
       and_intros
       all_goals first
        |omega
        |exact fin _ _ (by rw[hfd,<-ho])
      |false=>
       rw[hc,aI] at ho
       simp(maxSteps:=9^6)-dsimp only[go_sem,hg,↓q2,aD,aA,aK,aR,cK,hc,k6]
       and_intros
       all_goals first
        |omega
        |skip
       refine aC (i+1) 2 ⟨by omega,ho⟩ (by omega) ?_ ?_
       · simp -dsimp only[go_sem]<;>simp
       · simp -dsimp only[go_sem,aA,aK,aR]<;>simp
    · have hg:decide ((i:Int)<(sc.ss.length:Int))=false:=by simp;omega
      obtain rfl:i=sc.ss.length:=by omega
      rw[aOP] at ho
      simp(maxSteps:=9^6)-dsimp only[go_sem,hg,aA,aK,aR]
      exact fin 0 _ (by rw[hfd,<-ho])
def OV:List S->Prop:=fun av=>match av with
 |[.va (.gs r),.va (.c1 (.fz ds)),.va (.gs q)]=>kF r/\(X8 ds/\ds.length=(C.sc r).ss.length/\∀d∈ds.map C.it,0<=d/\d<=1000000000000)/\dG q/\(cJ (C.ty q)).1<=1000000000
 |_=>False
theorem IT {av:List S} (h:OV av):∃(s:Sc) (l:List Int) (t:Ty),av=[.va (.gs (aA s)),.va (.c1 (.fz (l.map cV))),.va (.gs (aK t))]/\s.fit/\(l.length=s.ss.length/\∀d∈l,0<=d/\d<=1000000000000)/\TyOk t/\(cJ t).1<=1000000000:=by
 unfold OV at h
 split at h
 · obtain ⟨⟨a,rfl,ha⟩,⟨⟨l,rfl⟩,h1,h2⟩,⟨b,rfl,hb⟩,h3⟩:=h
   rw[eF] at h3
   rw[cT] at h1
   rw[yA] at h2
   exact ⟨a,l,b,rfl,ha,⟨by simpa using h1,h2⟩,hb,h3⟩
 · exact h.elim
noncomputable def t0Fn:Fun:=⟨OV,YI,fun av h=>by obtain ⟨a,l,b,rfl,_⟩:=IT h;trivial⟩
attribute [go_sem] t0Fn OV
theorem Y3:Meets Tryz.prog 97 t0Fn.sp:=dB 0 FE fun av H K ⟨⟨h,e⟩,hK⟩=>by
 obtain ⟨a,l,b,rfl,ha,⟨h1,h2⟩,hb,h3⟩:=IT h
 refine ⟨b.h,⟨⟨⟨cN ha,⟨⟨l,rfl⟩,by rw[cT];simpa using h1,by rw[yA];exact h2⟩,bM hb,by rw[eF];exact h3,by rw[eF];exact bE _⟩,e⟩,hK⟩⟩
theorem OR {dp dq:ByteArray->Int} {l:List Fl} (h:∀f∈l,cW dp f.ty<=cW dq f.ty):jD dp l<=jD dq l:=WE (oF _ _) fun f hf=>Int.le_trans (h f hf) (WW hf)
structure DI (ss:List St) (r i:Nat) (d:List Int):Prop where
 len:d.length=ss.length
 lo:∀(j:Nat) (t:St) (v:Int),ss[j]? = some t->d[j]? = some v->0<=v/\v<=dD ss t.nm/\(AQ ss t.nm<r->v=dD ss t.nm)/\(j<i->AQ ss t.nm<r+1->v=dD ss t.nm)
theorem DI.ix {ss:List St} {es:List En} (_g:Gd ss es) {r i:Nat} {d:List Int} (h:DI ss r i d) (n:ByteArray):0<=gM ss d n/\gM ss d n<=dD ss n/\((fS ss n).isSome=true->AQ ss n<r->gM ss d n=dD ss n):=by
 cases hf:fS ss n with
 |none=>
  rw[GE hf]
  exact ⟨iC _,P1 ss n,fun h=>by simp at h⟩
 |some u=>
  obtain ⟨j,h1,h2⟩:=G8 h.len.symm hf
  obtain ⟨a1,a2,a3,_⟩:=h.lo j u _ h1 h2
  obtain ⟨_,rfl⟩:=fQ hf
  exact ⟨a1,a2,fun _ h=>a3 h⟩
theorem DI.all {ss:List St} {es:List En} (g:Gd ss es) {r i:Nat} {d:List Int} (h:DI ss r i d):∀v∈d,0<=v/\v<=1000000000000:=fun v hv=>by
 obtain ⟨j,hj⟩:=eN.1 hv
 have hl:=(bT.1 hj).1
 obtain ⟨t,ht⟩:∃t,ss[j]? = some t:=⟨_,aX (by have:=h.len;omega)⟩
 obtain ⟨h1,h2,_⟩:=h.lo j t v ht hj
 have:=XE g t.nm
 omega
theorem DI.fd {ss:List St} {es:List En} (g:Gd ss es) {r i:Nat} {d:List Int} (h:DI ss r i d) (t:Ty):cW (gM ss d) t<=cW (dD ss) t:=by
 unfold cW
 have:=h.ix g (cJ t).2.n
 cases (cJ t).2.k==6<;>simp only[aQ,aI]<;>omega
theorem DI.set {ss:List St} {es:List En} (g:Gd ss es) (ha:wL ss) {r i:Nat} {d:List Int} (h:DI ss r i d) {t:St} (ht:ss[i]? = some t):DI ss r (i+1) (d.set i (1+jD (gM ss d) t.fs)):=by
 have htm:=cC ht
 have hD:=EC g ha (g.nd t htm)
 have hle:jD (gM ss d) t.fs<=jD (dD ss) t.fs:=OR fun f _=>h.fd g f.ty
 have heq:AQ ss t.nm<r+1->jD (gM ss d) t.fs=jD (dD ss) t.fs:=fun hr=>AI fun f hf=>by
  unfold cW
  cases hk:(cJ f.ty).2.k==6 with
  |false=>rfl
  |true=>
   obtain ⟨h1,u,h2⟩:=LX g (g.nd t htm) hf hk
   have h3:=LN h1 h2 ha
   rw[(h.ix g _).2.2 (by rw[h2];rfl) (by omega)]
 have hn:=oF (gM ss d) t.fs
 refine ⟨by rw[List.length_set];exact h.len,fun j u v hu hv=>?_⟩
 rw[List.getElem?_set] at hv
 by_cases e:i=j
 · subst e
   rw[ht] at hu;obtain rfl:=dV hu
   have hlt:i<d.length:=by have:=h.len;have:=(bT.1 ht).1;omega
   simp[hlt] at hv
   subst hv
   exact ⟨by omega,by omega,fun hr=>by rw[heq (by omega)];omega,fun _ hr=>by rw[heq hr];omega⟩
 · rw[if_neg e] at hv
   obtain ⟨a1,a2,a3,a4⟩:=h.lo j u v hu hv
   exact ⟨a1,a2,a3,fun hj hr=>a4 (by omega) hr⟩
theorem DI.up {ss:List St} {r:Nat} {d:List Int} (h:DI ss r ss.length d):DI ss (r+1) 0 d:=⟨h.len,fun j t v ht hv=>by
 obtain ⟨a1,a2,_,a4⟩:=h.lo j t v ht hv
 exact ⟨a1,a2,fun hr=>a4 (bT.1 ht).1 hr,fun h=>absurd h (uF _)⟩⟩
theorem DI.fin {ss:List St} {d:List Int} (h:DI ss (ss.length+1) 0 d):d=ss.map fun t=>dD ss t.nm:=by
 refine iF fun j=>?_
 rw[b9]
 cases ht:ss[j]? with
 |none=>
  rw[List.getElem?_eq_none_iff] at ht
  rw[iE (by rw[h.len];exact ht)];rfl
 |some t=>
  obtain ⟨v,hv⟩:∃v,d[j]? = some v:=⟨_,aX (by rw[h.len];exact (bT.1 ht).1)⟩
  obtain ⟨_,_,a3,_⟩:=h.lo j t v ht hv
  rw[hv,a3 (Nat.lt_succ_of_le (XB _ _))];rfl
theorem DI.init (ss:List St):DI ss 0 0 (List.replicate ss.length 0):=⟨by simp,fun j t v ht hv=>by
 have:v=0:=by
  have:=cC hv
  exact (List.mem_replicate.1 this).2
 subst this
 exact ⟨iC _,P1 _ _,fun h=>absurd h (uF _),fun h=>absurd h (uF _)⟩⟩
def aYR:W.Spec:=fun av H K=>∃s:Sc,av=[.va (.gs (aA s))]/\H=[]/\s.fit/\Gd s.ss s.es/\wL s.ss/\K (.va (.c1 (.fz ((s.ss.map fun t=>dD s.ss t.nm).map cV)))) []
theorem aYL {s:Sc} {K:S->Hp->Prop} (h:s.fit) (g:Gd s.ss s.es) (ha:wL s.ss) (hK:K (.va (.c1 (.fz ((s.ss.map fun t=>dD s.ss t.nm).map cV)))) []):aYR [.va (.gs (aA s))] [] K:=⟨s,rfl,rfl,h,g,ha,hK⟩
theorem aOC {D:ByteArray->Int} {l:List Fl} {i:Nat} {f:Fl} (hx:l[i]? = some f):(l.take (i+1)).foldl (gF D) 0=max ((l.take i).foldl (gF D) 0) (cW D f.ty):=by
 rw[cM hx,zI];rfl
theorem aNT:Meets Tryz.prog 55 aYR:=by
 refine aF Tryz.func55 a9T 1 (by rw[Tryz.ntmps55];decide) (aG Y3 (aB _)) (fun av H K h=>by obtain ⟨_,rfl,_⟩:=h;rfl) ?_
 rintro av H K ⟨s,rfl,rfl,hs,g,ha,hK⟩
 have hls:=g.n
 simp(maxSteps:=9^6)-dsimp only[go_sem,aA,aXF,aRN]
 refine ⟨⟨by omega,by omega,by omega⟩,fun h0=>?_,fun h0=>?_⟩
 · have hnil:s.ss=[]:=T7.1 (by omega)
   have hlen:s.ss.length=0:=by omega
   rw[hnil] at hK
   refine aO (α:=Nat) (fun i=>[(1,.va (.c1 (.pt 0 0))),(3,.va (.c1 (.fz []))),(4,iS .i64 i)]) (fun _=>[.cells (aA s) 25])
    (fun i=>i<=1) (fun i=>1-i) 0 1 (aP _) ?_ ?_ ?_
   · simp -dsimp only[go_sem]<;>simp
   · simp -dsimp only[go_sem,aA]<;>simp
   intro i hi
   rcases gK i with h1|h1
   · have hg:decide ((i:Int)<=(s.ss.length:Int))=true:=by simp;omega
     simp(maxSteps:=9^6)-dsimp only[go_sem,hg,aA]
     refine aO (α:=Unit) (fun _=>[(1,.va (.c1 (.pt 0 0))),(3,.va (.c1 (.fz []))),(4,iS .i64 i),(5,iS .i64 0)]) (fun _=>[.cells (aA s) 25])
      (fun _=>True) (fun _=>0) () 1 trivial ?_ ?_ ?_
     · simp -dsimp only[go_sem]<;>simp
     · simp -dsimp only[go_sem,aA]<;>simp
     intro _ _
     have hg:decide ((0:Int)<(s.ss.length:Int))=false:=by simp;omega
     simp(maxSteps:=9^6)-dsimp only[go_sem,hg,aA]
     refine ⟨by omega,aC (i+1) 1 (by omega) (by omega) ?_ ?_⟩
     · simp -dsimp only[go_sem]<;>simp
     · simp -dsimp only[go_sem,aA]<;>simp
   · have hg:decide ((i:Int)<=(s.ss.length:Int))=false:=by simp;omega
     simp(maxSteps:=9^6)-dsimp only[go_sem,hg,aA]
     exact .z ((by simpa[go_sem] using hK))
 · have hsf:=cN hs
   rw[aA] at hsf
   have hsd:=cT s
   rw[aA] at hsd
   refine aO (α:=Nat×List Int) (fun z=>[(1,.va (.c1 (.pt 0 0))),(3,.va (.c1 (.sl 1 s.ss.length))),(4,iS .i64 z.1)]) (fun z=>[.cells (aA s) 25,.row (z.2.map cV) 3 1])
    (fun z=>z.1<=s.ss.length+1/\DI s.ss z.1 0 z.2) (fun z=>s.ss.length+1-z.1) (0,List.replicate s.ss.length 0) 2 ⟨aP _,DI.init _⟩ ?_ ?_ ?_
   · simp -dsimp only[go_sem]<;>simp
   · simp -dsimp only[go_sem,aA]<;>simp
   rintro ⟨r,d⟩ ⟨hr,hd⟩
   simp only at hr hd ⊢
   rcases bB r (s.ss.length+1) with hlt|hge
   · have hg:decide ((r:Int)<=(s.ss.length:Int))=true:=by simp;omega
     simp(maxSteps:=9^6)-dsimp only[go_sem,hg,aA]
     refine aO (α:=Nat×List Int) (fun z=>[(1,.va (.c1 (.pt 0 0))),(3,.va (.c1 (.sl 1 s.ss.length))),(4,iS .i64 r),(5,iS .i64 z.1)]) (fun z=>[.cells (aA s) 25,.row (z.2.map cV) 3 1])
      (fun z=>z.1<=s.ss.length/\DI s.ss r z.1 z.2) (fun z=>s.ss.length-z.1) (0,d) 2 ⟨aP _,hd⟩ ?_ ?_ ?_
     · simp -dsimp only[go_sem]<;>simp
     · simp -dsimp only[go_sem,aA]<;>simp
     clear hd hg
     rintro ⟨i,d⟩ ⟨hi,hd⟩
     simp only at hi hd ⊢
     rcases bB i s.ss.length with hit|hig
     · have hg:decide ((i:Int)<(s.ss.length:Int))=true:=by simp;omega
       obtain ⟨t,hx⟩:∃e,s.ss[i]? = some e:=⟨_,aX hit⟩
       have htm:=cC hx
       obtain ⟨_,htl,hfs⟩:=hs.ok.ss t htm
       have q1:=aS (row:=aD) hx
       have hset:=hd.set g ha hx
       have hmx:jD (gM s.ss d) t.fs<=1000000000000:=by
        have h1:=OR (l:=t.fs) fun f _=>hd.fd g f.ty
        have h2:=EC g ha (g.nd t htm)
        have h3:=XE g t.nm
        omega
       simp(maxSteps:=9^6)-dsimp only[go_sem,hg,aA]
       refine aO (α:=Nat) (fun k=>[(1,.va (.c1 (.pt 0 0))),(3,.va (.c1 (.sl 1 s.ss.length))),(4,iS .i64 r),(5,iS .i64 i),(6,iS .i64 ((t.fs.take k).foldl (gF (gM s.ss d)) 0)),(7,iS .i64 k)]) (fun _=>[.cells (aA s) 25,.row (d.map cV) 3 1])
        (fun k=>k<=t.fs.length) (fun k=>t.fs.length-k) 0 2 (aP _) ?_ ?_ ?_
       · simp -dsimp only[go_sem]<;>simp
       · simp -dsimp only[go_sem,aA]<;>simp
       intro k hk
       rcases bB k t.fs.length with hkt|hkg
       · have hg:decide ((k:Int)<(t.fs.length:Int))=true:=by simp;omega
         obtain ⟨f,hf⟩:∃e,t.fs[k]? = some e:=⟨_,aX hkt⟩
         have hfm:=cC hf
         have q2:=aS (row:=aN) hf
         have hity:dG (aK f.ty):=bM (hfs f hfm).ty
         have hlv:((cJ f.ty).1<=1000000000)=True:=eq_true (g.lv t htm f hfm)
         have hin:X8 (d.map cV):=⟨d,rfl⟩
         have hdl:d.length=s.ss.length:=hd.len
         have hall:(∀v:Int,v∈d->0<=v/\v<=1000000000000)=True:=eq_true (hd.all g)
         simp(maxSteps:=9^6)-dsimp only[go_sem,hg,↓q1,aD,aA]
         simp(maxSteps:=9^6)-dsimp only[go_sem,aN,nK,hsf,hsd,hity,hlv,hin,hall,hdl,hf,aM,forall_eq']
         refine ⟨by omega,by omega,by omega,by omega,aC (k+1) 2 (by omega) (by omega) ?_ ?_⟩
         · simp -dsimp only[go_sem,aOC hf]<;>simp
         · simp -dsimp only[go_sem,aA]<;>simp
       · have hg:decide ((k:Int)<(t.fs.length:Int))=false:=by simp;omega
         obtain rfl:k=t.fs.length:=by omega
         have hmx2:t.fs.foldl (gF (gM s.ss d)) 0=jD (gM s.ss d) t.fs:=rfl
         rw[eC,hmx2]
         have hn0:=oF (gM s.ss d) t.fs
         have hdl:d.length=s.ss.length:=hd.len
         obtain ⟨v0,hv0⟩:∃e,d[i]? = some e:=⟨_,aX (by omega)⟩
         simp(maxSteps:=9^6)-dsimp only[go_sem,hg,↓q1,aD,aA]
         simp(maxSteps:=9^6)-dsimp only[go_sem,hv0,aM,forall_eq']
         refine ⟨by omega,by omega,⟨by omega,hdl⟩,⟨hdl,by omega⟩,by omega,aC (i+1,d.set i (1+jD (gM s.ss d) t.fs)) 2 ⟨by simp only;omega,hset⟩ (by simp only;omega) ?_ ?_⟩
         · simp -dsimp only[go_sem]<;>simp
         · simp -dsimp only[go_sem,aA]<;>simp[List.map_set]
     · have hg:decide ((i:Int)<(s.ss.length:Int))=false:=by simp;omega
       obtain rfl:i=s.ss.length:=by omega
       simp(maxSteps:=9^6)-dsimp only[go_sem,hg,aA]
       refine ⟨by omega,aC (r+1,d) 2 ⟨by simp only;omega,hd.up⟩ (by simp only;omega) ?_ ?_⟩
       · simp -dsimp only[go_sem]<;>simp
       · simp -dsimp only[go_sem,aA]<;>simp
   · have hg:decide ((r:Int)<=(s.ss.length:Int))=false:=by simp;omega
     obtain rfl:r=s.ss.length+1:=by omega
     have hfin:=hd.fin
     rw[<-hfin] at hK
     simp(maxSteps:=9^6)-dsimp only[go_sem,hg,aA]
     have e1:s.ss.length=(d.map cV).length:=by rw[cE];exact hd.len.symm
     rw[e1]
     refine .pub 1 _ _ _ rfl (.sel [] (by simp) (by simp[cS]) rfl (.done ?_))
     simp -dsimp only[go_sem,cS]
     simpa using hK
theorem y6:Meets Tryz.prog 19 ckFn.sp:=by
 refine aF Tryz.func19 a5X 1 (by rw[Tryz.ntmps19];decide) (aG aUI (aG aOG (aG aBJ (aE aJD (aG aE7 (aE aNT (aB _))))))) pE ?_
 rintro av H K ⟨⟨h,rfl⟩,hK⟩
 obtain ⟨_,rfl,s,rfl,hs⟩:=fR h
 have hK:K (iS .i64 (aL s)) []:=by
  have:ckFn.val [.va (.gs (aA s))]=iA .i64 (aL s):=by simp -dsimp only[go_sem]
  rw[this] at hK;exact hK
 clear h
 have hfit:=hs
 have hsc:rH (aA s):=yI hs.ok
 have hsf:kF (aA s):=cN hs
 obtain ⟨⟨hv,hle,hls,hes,hss⟩,hlv,_,_⟩:=hs
 have fin:∀(x:Int) (R:Hp),aL s=x->W.Fin 0 K (iS .i64 x) R:=fun x R h1=>by
  rw[h1] at hK
  exact .z ((by simpa[go_sem] using hK))
 have hsc':=hsc
 have hsf':=hsf
 simp only[aA] at hsc' hsf'
 have hdec:C.sc [.vl (.int .i64 s.ver),.fz (s.es.map aV),.fz (s.ss.map aD)]=s:=cT s
 simp(maxSteps:=9^6)-dsimp only[go_sem,aA,aQ0,aWE,hsc',hdec]
 refine ⟨fun h1=>fin 4 _ (by unfold aL;rw[h1];rfl),fun c1=>⟨fun h1=>fin 3 _ (by unfold aL;rw[c1,h1];rfl),fun c2=>?_⟩⟩
 have hF:aL s=bif vQ s != 0 then vQ s else bif tH s != 0 then tH s else jQ s.ss:=by unfold aL;rw[c1,c2];rfl
 refine aO (α:=Nat) (fun i=>[(1,.va (.c1 (.pt 0 0))),(3,iS .i64 i)]) (fun _=>[.cells (aA s) 25])
  (fun i=>i<=s.es.length/\fE (j6 s) (s.es.length-i) i=vQ s) (fun i=>s.es.length-i) 0 1 ⟨aP _,rfl⟩ ?_ ?_ ?_
 · simp -dsimp only[go_sem]<;>simp
 · simp -dsimp only[go_sem,aA]<;>simp
 rintro i ⟨hi,ho⟩
 rcases bB i s.es.length with hlt|hge
 · have hg:decide ((i:Int)<(s.es.length:Int))=true:=by simp;omega
   have fin':∀(x:Int) (R:Hp),j6 s i=x->x≠0->W.Fin 0 K (iS .i64 x) R:=fun x R h1 h2=>fin x R (by
    rw[hF,<-ho,qB hlt (by rw[h1];exact h2),h1];exact pB h2)
   have fW:j6 s i=0->fE (j6 s) (s.es.length-(i+1)) (i+1)=vQ s:=fun h1=>by rw[<-ho,tI hlt h1]
   simp(maxSteps:=9^6)-dsimp only[go_sem,hg,aA,hsf',hdec,cP]
   refine ⟨⟨by omega,by omega⟩,fun h1=>fin' _ _ rfl (by simpa using h1),fun h1=>?_⟩
   refine ⟨by omega,aC (i+1) 1 ⟨by omega,fW (by simpa using h1)⟩ (by omega) ?_ ?_⟩
   · simp -dsimp only[go_sem]<;>simp
   · simp -dsimp only[go_sem,aA]<;>simp
 · have hg:decide ((i:Int)<(s.es.length:Int))=false:=by simp;omega
   obtain rfl:i=s.es.length:=by omega
   rw[sS] at ho
   rw[rN ho.symm] at hF
   simp(maxSteps:=9^6)-dsimp only[go_sem,hg,aA]
   clear hi hge hg ho
   refine aO (α:=Nat) (fun i=>[(1,.va (.c1 (.pt 0 0))),(5,iS .i64 i)]) (fun _=>[.cells (aA s) 25])
    (fun i=>i<=s.ss.length/\fE (kO s) (s.ss.length-i) i=tH s) (fun i=>s.ss.length-i) 0 1 ⟨aP _,rfl⟩ ?_ ?_ ?_
   · simp -dsimp only[go_sem]<;>simp
   · simp -dsimp only[go_sem,aA]<;>simp
   rintro i ⟨hi,ho⟩
   rcases bB i s.ss.length with hlt|hge
   · have hg:decide ((i:Int)<(s.ss.length:Int))=true:=by simp;omega
     have fin':∀(x:Int) (R:Hp),kO s i=x->x≠0->W.Fin 0 K (iS .i64 x) R:=fun x R h1 h2=>fin x R (by
      rw[hF,<-ho,qB hlt (by rw[h1];exact h2),h1];exact pB h2)
     have fW:kO s i=0->fE (kO s) (s.ss.length-(i+1)) (i+1)=tH s:=fun h1=>by rw[<-ho,tI hlt h1]
     simp(maxSteps:=9^6)-dsimp only[go_sem,hg,aA,hsf',hdec,cP]
     refine ⟨⟨by omega,by omega⟩,fun h1=>fin' _ _ rfl (by simpa using h1),fun h1=>?_⟩
     refine ⟨by omega,aC (i+1) 1 ⟨by omega,fW (by simpa using h1)⟩ (by omega) ?_ ?_⟩
     · simp -dsimp only[go_sem]<;>simp
     · simp -dsimp only[go_sem,aA]<;>simp
   · have hg:decide ((i:Int)<(s.ss.length:Int))=false:=by simp;omega
     obtain rfl:i=s.ss.length:=by omega
     rw[sS] at ho
     rw[rN ho.symm] at hF
     have g:=uM hfit c2 ho.symm
     simp(maxSteps:=9^6)-dsimp only[go_sem,hg,aA]
     clear hi hge hg ho
     refine aO (α:=Nat) (fun i=>[(1,.va (.c1 (.pt 0 0))),(7,iS .i64 i)]) (fun _=>[.cells (aA s) 25])
      (fun i=>i<=s.ss.length/\(s.ss.drop i).any (fun t=>bJ (dA s.ss t.nm) t.nm)=s.ss.any (fun t=>bJ (dA s.ss t.nm) t.nm)) (fun i=>s.ss.length-i) 0 1 ⟨aP _,rfl⟩ ?_ ?_ ?_
     · simp -dsimp only[go_sem]<;>simp
     · simp -dsimp only[go_sem,aA]<;>simp
     rintro i ⟨hi,ho⟩
     rcases bB i s.ss.length with hlt|hge
     · have hg:decide ((i:Int)<(s.ss.length:Int))=true:=by simp;omega
       obtain ⟨t,hx⟩:∃t,s.ss[i]? = some t:=⟨_,aX hlt⟩
       have q1:=aS (row:=aD) hx
       rw[eO hx] at ho
       have hv:=g.vlen t.nm
       have hul:=wU s.ss t.nm
       have hbs:xH ((dA s.ss t.nm).map bH):=rJ (by rw[wU];omega)
       have e0:(0<=((dA s.ss t.nm).length:Int))=True:=by simp
       have e1:(((dA s.ss t.nm).length:Int)<=9223372036854775807)=True:=by rw[hul];exact eq_true (by omega)
       have hto:(dA s.ss t.nm).take (dA s.ss t.nm).length=dA s.ss t.nm:=eC
       simp(maxSteps:=9^6)-dsimp only[go_sem,hg,↓q1,aD,aA]
       refine ⟨by omega,aB0 hfit g ?_⟩
       simp(maxSteps:=9^6)-dsimp only[go_sem,hbs,e0,e1,cP,hto]
       refine ⟨by omega,fun hc=>?_,fun hc=>?_⟩
       · rw[hc,cR] at ho
         exact fin 19 _ (by rw[hF];unfold jQ;rw[<-ho];rfl)
       · rw[hc,bK] at ho
         refine ⟨by omega,aC (i+1) 1 ⟨by omega,ho⟩ (by omega) ?_ ?_⟩
         · simp -dsimp only[go_sem]<;>simp
         · simp -dsimp only[go_sem,aA]<;>simp
     · have hg:decide ((i:Int)<(s.ss.length:Int))=false:=by simp;omega
       obtain rfl:i=s.ss.length:=by omega
       rw[g8] at ho
       have ha:wL s.ss:=fun t ht=>g5 ho.symm t ht
       have hF2:aL s=bif s.ss.any (fun t=>decide (6<dD s.ss t.nm)) then 9 else 0:=by rw[hF];unfold jQ;rw[<-ho];rfl
       simp(maxSteps:=9^6)-dsimp only[go_sem,hg,aA]
       refine aYL hfit g ha ?_
       simp(maxSteps:=9^6)-dsimp only[go_sem]
       clear hi hge hg ho
       refine aO (α:=Nat) (fun i=>[(9,.va (.c1 (.fz ((s.ss.map fun t=>dD s.ss t.nm).map cV)))),(10,iS .i64 i)]) (fun _=>[.cells (aA s) 25])
        (fun i=>i<=s.ss.length/\(s.ss.drop i).any (fun t=>decide (6<dD s.ss t.nm))=s.ss.any (fun t=>decide (6<dD s.ss t.nm))) (fun i=>s.ss.length-i) 0 1 ⟨aP _,rfl⟩ ?_ ?_ ?_
       · simp -dsimp only[go_sem]<;>simp
       · simp -dsimp only[go_sem,aA]<;>simp
       rintro i ⟨hi,ho⟩
       rcases bB i s.ss.length with hlt|hge
       · have hg:decide ((i:Int)<(s.ss.length:Int))=true:=by simp;omega
         obtain ⟨t,hx⟩:∃t,s.ss[i]? = some t:=⟨_,aX hlt⟩
         have hd:(s.ss.map fun t=>dD s.ss t.nm)[i]? = some (dD s.ss t.nm):=by rw[b9,hx];rfl
         have q1:=aS (row:=cV) hd
         have hml:(s.ss.map fun t=>dD s.ss t.nm).length=s.ss.length:=by simp
         rw[eO hx] at ho
         generalize (s.ss.map fun t=>dD s.ss t.nm)=ds at *
         simp(maxSteps:=9^6)-dsimp only[go_sem,hml,hg,↓q1,aA]
         refine ⟨by omega,fun hc=>?_,fun hc=>?_⟩
         · rw[hc,cR] at ho
           exact fin 9 _ (by rw[hF2,<-ho];rfl)
         · rw[hc,bK] at ho
           refine ⟨by omega,aC (i+1) 1 ⟨by omega,ho⟩ (by omega) ?_ ?_⟩
           · simp -dsimp only[go_sem]<;>simp
           · simp -dsimp only[go_sem,aA]<;>simp
       · have hg:decide ((i:Int)<(s.ss.length:Int))=false:=by simp;omega
         obtain rfl:i=s.ss.length:=by omega
         rw[g8] at ho
         have hml:(s.ss.map fun t=>dD s.ss t.nm).length=s.ss.length:=by simp
         generalize (s.ss.map fun t=>dD s.ss t.nm)=ds at *
         simp(maxSteps:=9^6)-dsimp only[go_sem,hml,hg,aA]
         exact fin 0 _ (by rw[hF2,<-ho];rfl)
noncomputable def knFn:Fun:=aG5 kF C.sc (fun s n=>bA (pN s n)) (fun _ _=>trivial)
attribute [go_sem] knFn
theorem aWT:Meets Tryz.prog 147 knFn.sp:=by
 refine aF Tryz.func147 a2J 2 (by rw[Tryz.ntmps147];decide) (aE mR (aG y6 (aB _))) aEE ?_
 rintro av H K ⟨⟨h,rfl⟩,hK⟩
 obtain ⟨_,n,rfl,s,rfl,hs⟩:=AX h
 have hK:K (bS (pN s n)) []:=by
  have:knFn.val [.va (.gs (aA s)),tS n]=bA (pN s n):=by simp -dsimp only[go_sem]
  rw[this] at hK;exact hK
 clear h
 have fin:∀(x:Bool) (R:Hp),pN s n=x->W.Fin 0 K (bS x) R:=fun x R h1=>by
  rw[h1] at hK
  exact .z ((by simpa[go_sem] using hK))
 have hsf:=cN hs
 rw[aA] at hsf
 have hsd:=cT s
 rw[aA] at hsd
 simp(maxSteps:=9^6)-dsimp only[go_sem,aA,aIP,aM9]
 refine dJ hs ?_
 cases hf:aZ s.ss n with
 |false=>
  simp(maxSteps:=9^6)-dsimp only[go_sem,aD,hsf,hsd]
  exact fin _ _ (by unfold pN;rw[hf,dF])
 |true=>
  simp(maxSteps:=9^6)-dsimp only[go_sem,aD,hsf,hsd]
  exact fin _ _ (by unfold pN;rw[hf,eZ])
theorem TO {s:Sc} {n:ByteArray} (h:pN s n=true):aL s=0/\aZ s.ss n=true:=by
 unfold pN at h;simpa using h
theorem NK {ss:List St} {n:ByteArray} (h:aZ ss n=true):∃t,fS ss n=some t:=by
 rw[<-oD] at h;exact oW.1 h
theorem aVA:Meets Tryz.prog 103 XI:=by
 refine aF Tryz.func103 aYX 2 (by rw[Tryz.ntmps103];decide) (aG aWT (aE aJD (aB _))) (fun av H K h=>by obtain ⟨_,_,rfl,_⟩:=h;rfl) ?_
 rintro av H K ⟨s,n,rfl,rfl,hs,hK⟩
 have fin:∀(x:List ByteArray) (R:Hp),jY s n=x->W.Fin 0 K (.va (.c1 (.fz (x.map bH)))) R:=fun x R h1=>by
  rw[h1] at hK
  exact .z ((by simpa[go_sem] using hK))
 have hsf:=cN hs
 rw[aA] at hsf
 have hsd:=cT s
 rw[aA] at hsd
 cases hok:pN s n with
 |false=>
  simp(maxSteps:=9^6)-dsimp only[go_sem,aA,YT,X6,hsf,hsd,hok]
  exact fin [] _ (by unfold jY;rw[hok];rfl)
 |true=>
  obtain ⟨h1,h2⟩:=TO hok
  obtain ⟨g,ha,_⟩:=lQ hs h1
  simp(maxSteps:=9^6)-dsimp only[go_sem,aA,YT,X6,hsf,hsd,hok]
  refine aB0 hs g ?_
  simp(maxSteps:=9^6)-dsimp only[go_sem]
  exact fin _ _ (by unfold jY;rw[hok];rfl)
def w9:Nat->Ty->Nat
 |0,_=>0
 |N+1,t=>t.e.foldl (fun m u=>max m (1+w9 N u)) 0
abbrev lF (N:Nat):Nat->Ty->Nat:=fun m u=>max m (1+w9 N u)
theorem a0C {N B:Nat} {l:List Ty} (h:∀u∈l,1+w9 N u<=B):∀m,m<=B->l.foldl (lF N) m<=B:=by
 induction l with
 |nil=>exact fun _ h=>h
 |cons v l ih=>exact fun m hm=>ih (fun u hu=>h u (eD _ hu)) _ (Nat.max_le.2 ⟨hm,h v eI⟩)
theorem J4:∀(N:Nat) (t:Ty),w9 N t<=N
 |0,_=>bE _
 |N+1,t=>a0C (fun u _=>by have:=J4 N u;omega) 0 (aP _)
theorem aOD {N:Nat} {l:List Ty} {i:Nat} {u:Ty} (hx:l[i]? = some u):(l.take (i+1)).foldl (lF N) 0=max ((l.take i).foldl (lF N) 0) (1+w9 N u):=by
 rw[cM hx,zI];rfl
def O2 (N:Nat):List S->Prop:=fun av=>match av with
 |[.va (.gs q),.va (.c1 (.vl (.int .i64 k)))]=>dG q/\k=(N:Int)/\N<=1000
 |_=>False
theorem tW {N:Nat} {av:List S} (h:O2 N av):∃t:Ty,av=[.va (.gs (aK t)),iS .i64 N]/\TyOk t/\N<=1000:=by
 unfold O2 at h
 split at h
 · obtain ⟨⟨t,rfl,ht⟩,rfl,h⟩:=h
   exact ⟨t,rfl,ht,h⟩
 · exact h.elim
noncomputable def aKY (N:Nat):List S->A:=fun av=>match av with
 |[.va (.gs q),.va (.c1 (.vl (.int .i64 _)))]=>iA .i64 (w9 N (C.ty q))
 |_=>.gs []
noncomputable def MT (N:Nat):Fun:=⟨O2 N,aKY N,fun av h=>by obtain ⟨a,rfl,_⟩:=tW h;trivial⟩
theorem RW {N:Nat}:∀av H K,(MT N).sp av H K->av.length=2:=fun av H K h=>by obtain ⟨a,rfl,_⟩:=tW h.1.1;rfl
attribute [go_sem] MT O2 aKY
theorem aNV:Meets Tryz.prog 71 (MT 0).sp:=by
 refine aF Tryz.func71 aXW 2 (by rw[Tryz.ntmps71];decide) (aB _) RW ?_
 rintro av H K ⟨⟨h,rfl⟩,hK⟩
 obtain ⟨t,rfl,ht,hN⟩:=tW h
 have hK:K (iS .i64 0) []:=by
  have:(MT 0).val [.va (.gs (aK t)),iS .i64 ((0:Nat):Int)]=iA .i64 0:=by simp -dsimp only[go_sem];rfl
  rw[this] at hK;exact hK
 clear h
 obtain ⟨k,s,n,e⟩:=t
 simp(maxSteps:=9^6)-dsimp only[go_sem,aK,aR,aG8,aGL]
 refine aO (α:=Unit) (fun i=>[(1,iS .i64 0),(2,.va (.c1 (.pt 0 0))),(5,iS .i64 0),(6,iS .i64 0)]) (fun _=>[.cells (aK (.mk k s n e)) 45])
  (fun i=>True) (fun i=>0) () 1 trivial ?_ ?_ ?_
 · simp -dsimp only[go_sem]
   simp
 · simp -dsimp only[go_sem,aK,aR]
 intro _ _
 have hg2:decide ((0:Int)<0)=false:=rfl
 cases hg:decide ((0:Int)<(e.length:Int)) with
 |true=>
  simp(maxSteps:=9^6)-dsimp only[go_sem,hg,hg2,aK,aR]
  exact .z ((by simp -dsimp only[go_sem];exact hK))
 |false=>
  simp(maxSteps:=9^6)-dsimp only[go_sem,hg,hg2,aK,aR]
  exact .z ((by simp -dsimp only[go_sem];exact hK))
theorem aA8:∀N,Meets Tryz.prog 71 (MT N).sp
 |0=>aNV
 |N+1=>by
  refine aF Tryz.func71 aXW 2 (by rw[Tryz.ntmps71];decide) (aG (aA8 N) (aB _)) RW ?_
  rintro av H K ⟨⟨h,rfl⟩,hK⟩
  obtain ⟨t,rfl,ht,hN⟩:=tW h
  have hK:K (iS .i64 (w9 (N+1) t)) []:=by
   have:(MT (N+1)).val [.va (.gs (aK t)),iS .i64 ((N+1:Nat):Int)]=iA .i64 (w9 (N+1) t):=by simp -dsimp only[go_sem]
   rw[this] at hK;exact hK
  clear h
  obtain ⟨k,s,n,e⟩:=t
  have hte:=ht.e
  have hte2:=ht.len
  simp only[Ty.e] at hte hte2
  have hK:K (iS .i64 ((e.foldl (lF N) 0:Nat):Int)) []:=hK
  simp(maxSteps:=9^6)-dsimp only[go_sem,aK,aR,aG8,aGL]
  refine aO (α:=Nat) (fun i=>[(1,iS .i64 ((N+1:Nat):Int)),(2,.va (.c1 (.pt 0 0))),(5,iS .i64 (((e.take i).foldl (lF N) 0:Nat):Int)),(6,iS .i64 i)]) (fun _=>[.cells (aK (.mk k s n e)) 45])
   (fun i=>i<=e.length) (fun i=>e.length-i) 0 1 (aP _) ?_ ?_ ?_
  · simp -dsimp only[go_sem]
    simp
  · simp -dsimp only[go_sem,aK,aR]
  intro i hi
  rcases bB i e.length with hlt|hge
  · have hg:decide ((i:Int)<(e.length:Int))=true:=by simp;omega
    have hg2:decide (0<((N+1:Nat):Int))=true:=eE (by omega)
    obtain ⟨u,hx⟩:∃t,e[i]? = some t:=⟨_,aX hlt⟩
    have q1:=aS (row:=aK) hx
    have hu:dG (aK u):=bM (hte u (cC hx))
    have hn1:((N+1:Nat):Int)-1=(N:Int):=by omega
    have hl:=J4 N u
    simp(maxSteps:=9^6)-dsimp only[go_sem,hg,hg2,↓q1,aK,aR,dR,hu,hn1]
    refine ⟨by omega,by omega,by omega,by omega,by omega,aC (i+1) 1 (by omega) (by omega) ?_ ?_⟩
    · simp -dsimp only[go_sem,aOD hx]<;>simp<;>omega
    · simp -dsimp only[go_sem,aK,aR]
  · have hg:decide ((i:Int)<(e.length:Int))=false:=by simp;omega
    obtain rfl:i=e.length:=by omega
    rw[eC]
    simp(maxSteps:=9^6)-dsimp only[go_sem,hg,aK,aR]
    exact .z ((by simp -dsimp only[go_sem];exact hK))
mutual
def fewT:Ty->Bool
 |.mk k s n e=>bif decide (40<(bl n).length)||decide (3<e.length)||decide (8<w9 20 (.mk k s n e)) then false else PE e
def PE:List Ty->Bool
 |[]=>true
 |t::r=>fewT t&&PE r
end
theorem NG:∀l:List Ty,PE l=l.all fewT
 |[]=>rfl
 |t::r=>by rw[PE,NG r];rfl
def PZ (N:Nat):List S->Prop:=fun av=>match av with
 |[.va (.gs q)]=>dG q/\(C.ty q).h<=N
 |_=>False
theorem tY {N:Nat} {av:List S} (h:PZ N av):∃t:Ty,av=[.va (.gs (aK t))]/\TyOk t/\t.h<=N:=by
 unfold PZ at h
 split at h
 · obtain ⟨⟨t,rfl,ht⟩,h⟩:=h
   rw[eF] at h
   exact ⟨t,rfl,ht,h⟩
 · exact h.elim
noncomputable def aJ4:List S->A:=fun av=>match av with
 |[.va (.gs q)]=>bA (fewT (C.ty q))
 |_=>.gs []
noncomputable def YN (N:Nat):Fun:=⟨PZ N,aJ4,fun av h=>by obtain ⟨a,rfl,_⟩:=tY h;trivial⟩
theorem aHB {N:Nat}:∀av H K,(YN N).sp av H K->av.length=1:=fun av H K h=>by obtain ⟨a,rfl,_⟩:=tY h.1.1;rfl
attribute [go_sem] YN PZ aJ4
theorem M9:∀N,Meets Tryz.prog 29 (YN N).sp
 |0=>⟨by kernel_rfl,by rintro xs vs E ro w K _ _ _ ⟨⟨h,_⟩,_⟩;obtain ⟨a,_,_,h⟩:=tY h;have:=a.h_pos;omega⟩
 |N+1=>by
  refine aF Tryz.func29 a72 1 (by rw[Tryz.ntmps29];decide) (aG (aA8 20) (aG (M9 N) (aB _))) aHB ?_
  rintro av H K ⟨⟨h,rfl⟩,hK⟩
  obtain ⟨t,rfl,ht,hN⟩:=tY h
  have hK:K (bS (fewT t)) []:=by
   have:(YN (N+1)).val [.va (.gs (aK t))]=bA (fewT t):=by simp -dsimp only[go_sem]
   rw[this] at hK;exact hK
  clear h
  have hit:=bM ht
  obtain ⟨k,s,n,e⟩:=t
  have hte:=ht.e
  have hte2:=ht.len
  simp only[Ty.e] at hte hte2
  have fin:∀(x:Bool) (R:Hp),fewT (.mk k s n e)=x->W.Fin 0 K (bS x) R:=fun x R h1=>by
   rw[h1] at hK
   exact .z ((by simpa[go_sem] using hK))
  have hcd:=eF (.mk k s n e)
  have hF:=fewT.eq_1 k s n e
  rw[aK,aR] at hit hcd
  generalize hlv:w9 20 (.mk k s n e)=lv at hF
  have hl20:=J4 20 (.mk k s n e)
  rw[hlv] at hl20
  have e20:((20:Nat):Int)=20:=rfl
  have hb20:(20<=1000)=True:=by simp
  simp(maxSteps:=9^6)-dsimp only[go_sem,aK,aR,aXK,aUO,hit,hcd,hlv,e20,hb20]
  refine ⟨fun h1=>fin false _ ?_,fun h1=>?_⟩
  · rw[hF]
    simp only[fB,fU] at h1
    rw[show (decide (40<(bl n).length)||decide (3<e.length)||decide (8<lv))=true by simp only[fB,fU];omega];rfl
  have hF2:fewT (.mk k s n e)=e.all fewT:=by
   simp only[cY,qF] at h1
   rw[hF,show (decide (40<(bl n).length)||decide (3<e.length)||decide (8<lv))=false by simp only[cY,qF];omega,NG];rfl
  refine aO (α:=Nat) (fun i=>[(1,.va (.c1 (.pt 0 0))),(3,iS .i64 i)]) (fun i=>[.cells (aK (.mk k s n e)) 45])
   (fun i=>i<=e.length/\∀u∈e.take i,fewT u=true) (fun i=>e.length-i) 0 1 ⟨aP _,fun u hu=>by cases hu⟩ ?_ ?_ ?_
  · simp -dsimp only[go_sem]<;>simp
  · simp -dsimp only[go_sem,aK,aR]
  rintro i ⟨hi,ho⟩
  rcases bB i e.length with hlt|hge
  · have hg:decide ((i:Int)<(e.length:Int))=true:=by simp;omega
    obtain ⟨u,hx⟩:∃t,e[i]? = some t:=⟨_,aX hlt⟩
    have hum:=cC hx
    have q1:=aS (row:=aK) hx
    have hu:dG (aK u):=bM (hte u hum)
    have huh:(u.h<=N)=True:=eq_true (by have:=Ty.hs_mem hum;rw[Ty.h] at hN;omega)
    simp(maxSteps:=9^6)-dsimp only[go_sem,hg,↓q1,aK,aR,dR,hu,huh]
    refine ⟨by omega,fun h1=>fin false _ ?_,fun h1=>?_⟩
    · rw[hF2,List.all_eq_false];exact ⟨u,hum,by simpa using h1⟩
    · refine ⟨by omega,aC (i+1) 1 ⟨by omega,fun v hv=>?_⟩ (by omega) ?_ ?_⟩
      · rw[cM hx] at hv
        rcases cL.1 hv with h|h
        · exact ho v h
        · obtain rfl:v=u:=by simpa using h
          simpa using h1
      · simp -dsimp only[go_sem]<;>simp
      · simp -dsimp only[go_sem,aK,aR]
  · have hg:decide ((i:Int)<(e.length:Int))=false:=by simp;omega
    obtain rfl:i=e.length:=by omega
    rw[eC] at ho
    simp(maxSteps:=9^6)-dsimp only[go_sem,hg,aK,aR]
    exact fin true _ (by rw[hF2,List.all_eq_true];exact ho)
noncomputable def f0Fn:Fun:=uV dG C.ty fun t=>.bool (fewT t)
attribute [go_sem] f0Fn
theorem aEB:Meets Tryz.prog 29 f0Fn.sp:=dB 0 M9 fun av H K ⟨⟨h,e⟩,hK⟩=>by
 obtain ⟨_,rfl,t,rfl,ht⟩:=fR h
 exact ⟨t.h,⟨⟨⟨bM ht,by rw[eF];exact bE _⟩,e⟩,hK⟩⟩
def HB (e:En):Bool:=!(decide (40<(bl e.nm).length)||decide (18<e.ns.length)||decide (18<e.vs.length))&&e.ns.all fun n=>!(decide (40<(bl n).length))
def DR (f:Fl):Bool:=!(decide (40<(bl f.nm).length)||!(fewT f.ty))
def AK (t:St):Bool:=!(decide (40<(bl t.nm).length)||decide (18<t.fs.length))&&t.fs.all DR
def rK (s:Sc):Bool:=!(decide (18<s.es.length)||decide (18<s.ss.length))&&(s.es.all HB&&s.ss.all AK)
theorem u7 {α:Type} {l:List α} {i:Nat} {x:α} (hx:l[i]? = some x) (p:α->Bool):(l.drop i).all p=(p x&&(l.drop (i+1)).all p):=by
 obtain ⟨h,rfl⟩:=bT.1 hx
 rw[cG h,List.all_cons]
theorem xO {α:Type} {l:List α} (p:α->Bool):(l.drop l.length).all p=true:=by rw[dT];rfl
theorem a9Z:Meets Tryz.prog 12 (uV rH C.sc fun s=>.bool (rK s)).sp:=by
 refine aF Tryz.func12 a96 1 (by rw[Tryz.ntmps12];decide) (aG aEB (aB _)) pE ?_
 rintro av H K ⟨⟨h,rfl⟩,hK⟩
 obtain ⟨_,rfl,s,rfl,hs⟩:=fR h
 have hK:K (bS (rK s)) []:=by
  have:(uV rH C.sc fun s=>.bool (rK s)).val [.va (.gs (aA s))]=bA (rK s):=by simp -dsimp only[go_sem]
  rw[this] at hK;exact hK
 clear h
 obtain ⟨hv,hle,hls,hes,hss⟩:=hs
 have fin:∀(x:Bool) (R:Hp),rK s=x->W.Fin 0 K (bS x) R:=fun x R h1=>by
  rw[h1] at hK
  exact .z ((by simpa[go_sem] using hK))
 simp(maxSteps:=9^6)-dsimp only[go_sem,aA,aXD,aT9]
 refine ⟨fun h1=>fin false _ ?_,fun h1=>?_⟩
 · unfold rK
   rw[show (decide (18<s.es.length)||decide (18<s.ss.length))=true by simp only[fB,fU] at h1 ⊢;omega];rfl
 have hF:rK s=(s.es.all HB&&s.ss.all AK):=by
  unfold rK
  rw[show (decide (18<s.es.length)||decide (18<s.ss.length))=false by simp only[cY,qF] at h1 ⊢;omega];rfl
 refine aO (α:=Nat) (fun i=>[(1,.va (.c1 (.pt 0 0))),(3,iS .i64 i)]) (fun _=>[.cells (aA s) 25])
  (fun i=>i<=s.es.length/\(s.es.drop i).all HB=s.es.all HB) (fun i=>s.es.length-i) 0 1 ⟨aP _,rfl⟩ ?_ ?_ ?_
 · simp -dsimp only[go_sem]<;>simp
 · simp -dsimp only[go_sem,aA]<;>simp
 rintro i ⟨hi,ho⟩
 rcases bB i s.es.length with hlt|hge
 · have hg:decide ((i:Int)<(s.es.length:Int))=true:=by simp;omega
   obtain ⟨e,hx⟩:∃e,s.es[i]? = some e:=⟨_,aX hlt⟩
   have hem:=cC hx
   have q1:=aS (row:=aV) hx
   obtain ⟨_,hln,hlv,_,_⟩:=hes e hem
   rw[u7 hx] at ho
   have bad:HB e=false->∀R,W.Fin 0 K (bS false) R:=fun h R=>fin false R (by rw[hF,<-ho,h];rfl)
   have cst:∀(a b:Nat),decide ((a:Int)<(b:Int))=decide (a<b):=fun a b=>by simp
   have hE:HB e=(!(decide (40<((bl e.nm).length:Int))||decide (18<(e.ns.length:Int))||decide (18<(e.vs.length:Int)))&&e.ns.all fun n=>!(decide (40<((bl n).length:Int)))):=by
    unfold HB
    have c40:∀b:Nat,decide (40<(b:Int))=decide (40<b):=fun b=>by simp;omega
    have c18:∀b:Nat,decide (18<(b:Int))=decide (18<b):=fun b=>by simp;omega
    simp only[c40,c18]
   cases d1:decide (40<((bl e.nm).length:Int)) with
   |true=>
    rw[d1] at hE
    simp(maxSteps:=9^6)-dsimp only[go_sem,hg,↓q1,aV,aA,d1]
    exact ⟨by omega,bad hE _⟩
   |false=>
   cases d2:decide (18<(e.ns.length:Int)) with
   |true=>
    rw[d1,d2] at hE
    simp(maxSteps:=9^6)-dsimp only[go_sem,hg,↓q1,aV,aA,d1,d2]
    exact ⟨by omega,by omega,bad hE _⟩
   |false=>
   cases d3:decide (18<(e.vs.length:Int)) with
   |true=>
    rw[d1,d2,d3] at hE
    simp(maxSteps:=9^6)-dsimp only[go_sem,hg,↓q1,aV,aA,d1,d2,d3]
    exact ⟨by omega,by omega,by omega,bad hE _⟩
   |false=>
    rw[d1,d2,d3] at hE
    simp only[uG,bV,bF] at hE
    simp(maxSteps:=9^6)-dsimp only[go_sem,hg,↓q1,aV,aA,d1,d2,d3]
    refine ⟨by omega,by omega,by omega,?_⟩
    refine aO (α:=Nat) (fun k=>[(1,.va (.c1 (.pt 0 0))),(3,iS .i64 i),(4,iS .i64 k)]) (fun _=>[.cells (aA s) 25])
     (fun k=>k<=e.ns.length/\((e.ns.drop k).all fun n=>!(decide (40<((bl n).length:Int))))=e.ns.all fun n=>!(decide (40<((bl n).length:Int)))) (fun k=>e.ns.length-k) 0 1 ⟨aP _,rfl⟩ ?_ ?_ ?_
    · simp -dsimp only[go_sem]<;>simp
    · simp -dsimp only[go_sem,aA]<;>simp
    rintro k ⟨hk,ho2⟩
    rcases bB k e.ns.length with hkt|hkg
    · have hgk:decide ((k:Int)<(e.ns.length:Int))=true:=by simp;omega
      obtain ⟨n,hn⟩:∃n,e.ns[k]? = some n:=⟨_,aX hkt⟩
      have q2:=aS (row:=bH) hn
      rw[u7 hn] at ho2
      simp(maxSteps:=9^6)-dsimp only[go_sem,↓q1,aV,aA,hgk]
      simp(maxSteps:=9^6)-dsimp only[go_sem,hn,aM,forall_eq']
      refine ⟨by omega,by omega,by omega,fun h2=>bad (by rw[hE,<-ho2,h2];rfl) _,fun h2=>?_⟩
      rw[h2] at ho2
      refine ⟨by omega,aC (k+1) 1 ⟨by omega,by simpa using ho2⟩ (by omega) ?_ ?_⟩
      · simp -dsimp only[go_sem]<;>simp
      · simp -dsimp only[go_sem,aA]<;>simp
    · have hgk:decide ((k:Int)<(e.ns.length:Int))=false:=by simp;omega
      obtain rfl:k=e.ns.length:=by omega
      rw[xO] at ho2
      rw[hE,<-ho2,bF] at ho
      simp(maxSteps:=9^6)-dsimp only[go_sem,↓q1,aV,aA,hgk]
      refine ⟨by omega,by omega,aC (i+1) 1 ⟨by omega,ho⟩ (by omega) ?_ ?_⟩
      · simp -dsimp only[go_sem]<;>simp
      · simp -dsimp only[go_sem,aA]<;>simp
 · have hg:decide ((i:Int)<(s.es.length:Int))=false:=by simp;omega
   obtain rfl:i=s.es.length:=by omega
   rw[xO] at ho
   rw[<-ho,bF] at hF
   simp(maxSteps:=9^6)-dsimp only[go_sem,hg,aA]
   clear ho hi hge hg
   refine aO (α:=Nat) (fun i=>[(1,.va (.c1 (.pt 0 0))),(5,iS .i64 i)]) (fun _=>[.cells (aA s) 25])
    (fun i=>i<=s.ss.length/\(s.ss.drop i).all AK=s.ss.all AK) (fun i=>s.ss.length-i) 0 1 ⟨aP _,rfl⟩ ?_ ?_ ?_
   · simp -dsimp only[go_sem]<;>simp
   · simp -dsimp only[go_sem,aA]<;>simp
   rintro i ⟨hi,ho⟩
   rcases bB i s.ss.length with hlt|hge
   · have hg:decide ((i:Int)<(s.ss.length:Int))=true:=by simp;omega
     obtain ⟨e,hx⟩:∃e,s.ss[i]? = some e:=⟨_,aX hlt⟩
     have hem:=cC hx
     have q1:=aS (row:=aD) hx
     obtain ⟨_,hln,hfs⟩:=hss e hem
     rw[u7 hx] at ho
     have bad:AK e=false->∀R,W.Fin 0 K (bS false) R:=fun h R=>fin false R (by rw[hF,<-ho,h];rfl)
     have hE:AK e=(!(decide (40<((bl e.nm).length:Int))||decide (18<(e.fs.length:Int)))&&e.fs.all DR):=by
      unfold AK
      have c40:∀b:Nat,decide (40<(b:Int))=decide (40<b):=fun b=>by simp;omega
      have c18:∀b:Nat,decide (18<(b:Int))=decide (18<b):=fun b=>by simp;omega
      simp only[c40,c18]
     cases d1:decide (40<((bl e.nm).length:Int)) with
     |true=>
      rw[d1] at hE
      simp(maxSteps:=9^6)-dsimp only[go_sem,hg,↓q1,aD,aA,d1]
      exact ⟨by omega,bad hE _⟩
     |false=>
     cases d2:decide (18<(e.fs.length:Int)) with
     |true=>
      rw[d1,d2] at hE
      simp(maxSteps:=9^6)-dsimp only[go_sem,hg,↓q1,aD,aA,d1,d2]
      exact ⟨by omega,by omega,bad hE _⟩
     |false=>
      rw[d1,d2] at hE
      simp only[uG,bV,bF] at hE
      simp(maxSteps:=9^6)-dsimp only[go_sem,hg,↓q1,aD,aA,d1,d2]
      refine ⟨by omega,by omega,?_⟩
      refine aO (α:=Nat) (fun k=>[(1,.va (.c1 (.pt 0 0))),(5,iS .i64 i),(6,iS .i64 k)]) (fun _=>[.cells (aA s) 25])
       (fun k=>k<=e.fs.length/\(e.fs.drop k).all DR=e.fs.all DR) (fun k=>e.fs.length-k) 0 1 ⟨aP _,rfl⟩ ?_ ?_ ?_
      · simp -dsimp only[go_sem]<;>simp
      · simp -dsimp only[go_sem,aA]<;>simp
      rintro k ⟨hk,ho2⟩
      rcases bB k e.fs.length with hkt|hkg
      · have hgk:decide ((k:Int)<(e.fs.length:Int))=true:=by simp;omega
        obtain ⟨f,hn⟩:∃n,e.fs[k]? = some n:=⟨_,aX hkt⟩
        have q2:=aS (row:=aN) hn
        have hity:dG (aK f.ty):=bM (hfs f (cC hn)).ty
        rw[u7 hn] at ho2
        have hFl:DR f=!(decide (40<((bl f.nm).length:Int))||!(fewT f.ty)):=by
         unfold DR
         have c40:∀b:Nat,decide (40<(b:Int))=decide (40<b):=fun b=>by simp;omega
         simp only[c40]
        cases d3:decide (40<((bl f.nm).length:Int)) with
        |true=>
         rw[d3] at hFl
         simp(maxSteps:=9^6)-dsimp only[go_sem,↓q1,aD,aA,hgk]
         simp(maxSteps:=9^6)-dsimp only[go_sem,aN,hn,aM,forall_eq',d3]
         refine ⟨by omega,by omega,by omega,bad (by rw[hE,<-ho2,hFl];rfl) _⟩
        |false=>
         rw[d3] at hFl
         simp only[bK,Bool.not_not] at hFl
         rw[hFl] at ho2
         simp(maxSteps:=9^6)-dsimp only[go_sem,↓q1,aD,aA,hgk]
         simp(maxSteps:=9^6)-dsimp only[go_sem,aN,nK,hity,hn,aM,forall_eq',d3]
         refine ⟨by omega,by omega,by omega,by omega,by omega,fun h2=>bad (by rw[hE,<-ho2,h2];rfl) _,fun h2=>?_⟩
         rw[show fewT f.ty=true by simpa using h2,bF] at ho2
         refine ⟨by omega,aC (k+1) 1 ⟨by omega,ho2⟩ (by omega) ?_ ?_⟩
         · simp -dsimp only[go_sem]<;>simp
         · simp -dsimp only[go_sem,aA]<;>simp
      · have hgk:decide ((k:Int)<(e.fs.length:Int))=false:=by simp;omega
        obtain rfl:k=e.fs.length:=by omega
        rw[xO] at ho2
        rw[hE,<-ho2,bF] at ho
        simp(maxSteps:=9^6)-dsimp only[go_sem,↓q1,aD,aA,hgk]
        refine ⟨by omega,by omega,aC (i+1) 1 ⟨by omega,ho⟩ (by omega) ?_ ?_⟩
        · simp -dsimp only[go_sem]<;>simp
        · simp -dsimp only[go_sem,aA]<;>simp
   · have hg:decide ((i:Int)<(s.ss.length:Int))=false:=by simp;omega
     obtain rfl:i=s.ss.length:=by omega
     rw[xO] at ho
     simp(maxSteps:=9^6)-dsimp only[go_sem,hg,aA]
     exact fin true _ (by rw[hF,<-ho])
def aFL:PC:=.S [.z 3 25 0,.z 4 45 1,.z 5 29 2,.c 6 0] (.seq (.S [.n 7 5 5,.u 8 47 [iX,(.i 6)],.h 9 .gtr 8 6] (.I 9 (.R [.c 6 9]))) (.R [.n 10 3 3,.q 11 (.bd [(.int .i64 0),(.slice none 0 0),(.slice none 0 0)] [(0,3,jK)]),.n 12 4 4,.n 13 5 5,.u 14 48 [kJ,kB,kW],.v 6 14]))
def aEU:List RV:=[.mv (.t 6)]
theorem a8B:aU Tryz.prog true ⟨fun r k=>if r=1/\k=1 then .q else if r=3/\k=4 then .q else .own [],fun _=>false⟩ Tryz.f17=some (aFL,aEU):=by kernel_rfl
def aF8:PC:=.S [.z 2 29 0,.c 4 0] (.seq (.S [.f 10 0 2,.r 11 10,.h 12 .neq 11 5,.v 13 12,.Y 14 13 (.f 0 2),.Y 15 13 (.r 14),.Y 16 13 (.h .neq 15 6),.p 17 13 16,.v 18 17,.Y 19 18 (.f 3 2),.Y 20 18 (.r 19),.Y 21 18 (.m 20),.Y 22 18 (.h .eql 21 0),.p 23 18 22,.v 24 23,.Y 25 24 (.f 4 2),.Y 26 24 (.r 25),.Y 27 24 (.m 26),.Y 28 24 (.h .eql 27 0),.p 29 24 28] (.I 29 (.R [.c 4 0]))) (.S [.c 5 0] (.seq (.S [.f 30 3 2,.r 31 30,.m 32 31,.c 33 0] (.L 0 34 33 32 1 46 (.S [.x 35 5 31 33,.n 36 5 35,.A 7 gO 29,.w 5 7 36] (.S [.v 37 5,.v 38 1,.k 39 .leq 37 38] (.I 39 (.reg [.v 40 5,.n 41 5 7,.v 42 1,.h 43 .sub 42 1,.u 44 47 [nB,mM],.q 45 (.mx true nL m7),.v 5 45])))))) (.seq (.S [.f 47 4 2,.r 48 47,.m 49 48,.c 50 0] (.L 2 51 50 49 3 64 (.S [.x 52 6 48 50,.n 53 6 52,.A 9 #[(.int .i64 0),(.int .i64 0),(.int .i64 0),(.string (mk [])),(.slice none 0 0),(.slice none 0 0)] 42,.w 6 9 53] (.S [.v 54 5,.v 55 1,.k 56 .leq 54 55] (.I 56 (.reg [.v 57 5,.f 58 1 9,.n 59 5 58,.v 60 1,.h 61 .sub 60 1,.u 62 47 [rR,tT],.q 63 (.mx true A9 (.t 62)),.v 5 63])))))) (.R [.v 65 5,.b 66 .add lR wG,.v 4 66])))))
def aHK:List RV:=[.mv (.t 4)]
theorem a6H:aU Tryz.prog true ⟨fun r k=>if r=8/\k=4 then .q else if r=14/\k=5 then .q else .own [],fun _=>false⟩ Tryz.f47=some (aF8,aHK):=by kernel_rfl
def F9:PC:=.S [.z 3 98 0,.z 4 45 1,.z 5 29 2,.c 6 0] (.seq (.S [.n 8 3 3,.n 9 4 4,.u 10 86 [rS,iR],.t 11 10,.v 12 11,.N 13 12 (.f 0 5),.N 14 12 (.r 13),.N 15 12 (.f 0 4),.N 16 12 (.r 15),.N 17 12 (.k .neq 14 16),.o 18 12 17] (.I 18 (.R [.c 6 13]))) (.S [.n 19 3 3,.q 20 (.mh 87 [gT]),.v 7 20] (.seq (.S [.f 21 0 4,.r 22 21] (.block 0 (.S [.h 24 .eql 22 4,.v 23 24] (.C 23 (.reg [.n 25 3 3,.q 26 (.mh 88 [kI]),.v 7 26]) (.S [.h 28 .eql 22 5,.v 27 28] (.C 27 (.reg [.n 29 3 3,.q 30 (.mh 89 [lB]),.v 7 30]) (.S [.h 32 .eql 22 6,.v 31 32] (.I 31 (.reg [.n 33 3 3,.q 34 (.mh 90 [mJ]),.v 7 34]))))))))) (.R [.v 35 7,.n 36 4 4,.n 37 5 5,.a 38 (.ca qG [kX,mI] []),.v 6 38]))))
def HC:List RV:=[.mv (.t 6)]
theorem bAG:aU Tryz.prog true ⟨fun r k=>if r=1/\k=2 then .q else .own [],fun _=>false⟩ Tryz.f48=some (F9,HC):=by kernel_rfl
def aUB:PC:=.S [.z 2 25 0,.z 3 45 1,.A 4 gO 29] (.R [.n 5 3 2,.q 6 (.bd [(.int .i64 0),(.slice none 0 0),(.slice none 0 0)] [(0,3,kM)]),.n 7 4 3,.j 8 109 [jZ,iX,(.i 22)],.w 5 4 8])
def aUG:List RV:=[.ld (.ldn 5 (.t 4))]
theorem a6K:aU Tryz.prog true ⟨fun _ _=>.own [],fun _=>false⟩ Tryz.f64=some (aUB,aUG):=by kernel_rfl
def uR:PC:=.seq (.gh (.reg [.v 31 5,.v 32 31,.Y 33 32 (.f 1 3),.Y 34 32 (.r 33),.Y 35 32 (.h .eql 34 8),.Y 36 32 (.v 35),.N 37 36 (.f 1 3),.N 38 36 (.r 37),.N 39 36 (.h .eql 38 16),.Y 40 32 (.o 36 39),.Y 41 32 (.v 40),.N 42 41 (.f 1 3),.N 43 41 (.r 42),.N 44 41 (.h .eql 43 32),.Y 45 32 (.o 41 44),.Y 46 32 (.v 45),.N 47 46 (.f 1 3),.N 48 46 (.r 47),.N 49 46 (.h .eql 48 64),.Y 50 32 (.o 46 49),.p 51 32 50,.v 4 51])) .ret
@[go_sem ↓] theorem a8P:a7 uR:=a8 _
def x7:PC:=.seq (.gh (.reg [.v 54 5,.v 55 54,.Y 56 55 (.f 1 3),.Y 57 55 (.r 56),.Y 58 55 (.h .eql 57 8),.Y 59 55 (.v 58),.N 60 59 (.f 1 3),.N 61 59 (.r 60),.N 62 59 (.h .eql 61 16),.Y 63 55 (.o 59 62),.Y 64 55 (.v 63),.N 65 64 (.f 1 3),.N 66 64 (.r 65),.N 67 64 (.h .eql 66 32),.Y 68 55 (.o 64 67),.p 69 55 68,.v 4 69])) .ret
@[go_sem ↓] theorem a9Y:a7 x7:=a8 _
def qY:PC:=.seq (.gh (.reg [.f 85 2 3,.r 86 85,.b 87 .eql (.t 86) d8,.v 88 87,.Y 89 88 (.f 1 3),.Y 90 88 (.r 89),.Y 91 88 (.h .geq 90 1),.p 92 88 91,.v 93 92,.Y 94 93 (.f 1 3),.Y 95 93 (.r 94),.Y 96 93 (.h .leq 95 32),.p 97 93 96,.v 98 97,.Y 99 98 (.f 3 3),.Y 100 98 (.r 99),.Y 101 98 (.m 100),.Y 102 98 (.h .eql 101 1),.p 103 98 102,.v 104 103,.Y 105 104 (.n 3 2),.Y 106 104 (.f 3 3),.Y 107 104 (.r 106),.Y 108 104 (.l (.ia 4 (.t 107) gZ)),.Y 109 104 (.n 4 108),.Y 110 104 (.cq 86 [(.t 105),(.t 109)]),.p 111 104 110,.v 4 111])) .ret
@[go_sem ↓] theorem a5L:a7 qY:=a8 _
def MC:PC:=.seq (.gh (.reg [.v 122 7,.v 123 122,.Y 124 123 (.f 1 3),.Y 125 123 (.r 124),.Y 126 123 (.h .eql 125 0),.p 127 123 126,.v 128 127,.Y 129 128 (.f 3 3),.Y 130 128 (.r 129),.Y 131 128 (.m 130),.Y 132 128 (.h .eql 131 0),.p 133 128 132,.v 4 133])) .ret
@[go_sem ↓] theorem a4I:a7 MC:=a8 _
def ML:PC:=.seq (.gh (.reg [.f 115 0 2,.n 116 3 115,.f 117 2 3,.r 118 117,.j 119 16 [(.t 116),(.t 118)],.v 114 119,.y 120 114 0,.y 121 114 1,.A 6 #[(.string (mk [])),(.slice none 0 0)] 50,.w 2 6 120,.v 7 121])) MC
@[go_sem ↓] theorem a4B:a7 ML:=a8 _
def KO:PC:=.seq (.gh (.reg [.v 144 9,.v 145 144,.Y 146 145 (.f 1 3),.Y 147 145 (.r 146),.Y 148 145 (.h .eql 147 0),.p 149 145 148,.v 150 149,.Y 151 150 (.f 3 3),.Y 152 150 (.r 151),.Y 153 150 (.m 152),.Y 154 150 (.h .eql 153 0),.p 155 150 154,.v 4 155])) .ret
@[go_sem ↓] theorem a3F:a7 KO:=a8 _
def MY:PC:=.seq (.gh (.reg [.f 137 0 2,.n 138 3 137,.f 139 2 3,.r 140 139,.j 141 33 [(.t 138),(.t 140)],.v 136 141,.y 142 136 0,.y 143 136 1,.A 8 #[(.string (mk [])),(.slice none 0 0),(.slice none 0 0)] 70,.w 3 8 142,.v 9 143])) KO
@[go_sem ↓] theorem a4C:a7 MY:=a8 _
def MR:PC:=.seq (.gh (.reg [.h 135 .eql 20 7,.v 134 135])) (.I 134 MY)
@[go_sem ↓] theorem a35:a7 MR:=a8 _
def ME:PC:=.seq (.gh (.reg [.h 113 .eql 20 6,.v 112 113])) (.C 112 ML MR)
@[go_sem ↓] theorem a3O:a7 ME:=a8 _
def J6:PC:=.seq (.gh (.reg [.h 84 .eql 20 5,.v 83 84])) (.C 83 qY ME)
@[go_sem ↓] theorem a5D:a7 J6:=a8 _
def TM:PC:=.seq (.gh (.reg [.h 71 .eql 20 4,.v 70 71])) (.C 70 (.R [.v 72 5,.v 73 72,.Y 74 73 (.f 1 3),.Y 75 73 (.r 74),.Y 76 73 (.h .geq 75 1),.p 77 73 76,.v 78 77,.Y 79 78 (.f 1 3),.Y 80 78 (.r 79),.Y 81 78 (.h .leq 80 2000),.p 82 78 81,.v 4 82]) J6)
@[go_sem ↓] theorem a8V:a7 TM:=a8 _
def S5:PC:=.seq (.gh (.reg [.h 53 .eql 20 3,.v 52 53])) (.C 52 x7 TM)
@[go_sem ↓] theorem a7W:a7 S5:=a8 _
def Q4:PC:=.seq (.gh (.reg [.h 30 .eql 20 2,.v 29 30])) (.C 29 uR S5)
@[go_sem ↓] theorem a7P:a7 Q4:=a8 _
def aX9:PC:=.S [.z 2 98 0,.z 3 45 1,.F 4] (.S [.f 10 2 3,.r 11 10,.b 12 .eql kJ d8,.v 13 12,.Y 14 13 (.f 3 3),.Y 15 13 (.r 14),.Y 16 13 (.m 15),.Y 17 13 (.h .eql 16 0),.p 18 13 17,.v 5 18] (.seq (.S [.f 19 0 3,.r 20 19] (.block 0 (.S [.h 22 .eql 20 1,.v 21 22] (.C 21 (.R [.v 23 5,.v 24 23,.Y 25 24 (.f 1 3),.Y 26 24 (.r 25),.Y 27 24 (.h .eql 26 0),.p 28 24 27,.v 4 28]) Q4)))) (.R [.F 4])))
def aYP:List RV:=[.mv (.t 4)]
theorem a9N:aU Tryz.prog true ⟨fun r k=>if r=12/\k=25 then .q else .own [],fun r=>[5,6,7,8,9,11,12,13,14,15,16,17,18].contains r⟩ Tryz.f86=some (aX9,aYP):=by kernel_rfl
def RT:PC:=.gh (.reg [.f 29 1 5,.r 30 29,.h 31 .eql 30 0,.v 32 31,.N 33 32 (.f 1 5),.N 34 32 (.r 33),.N 35 32 (.h .eql 34 1),.o 36 32 35,.v 7 36])
@[go_sem ↓] theorem a57:a7 RT:=a8 _
def HH:PC:=.gh (.reg [.f 39 1 4,.r 40 39,.h 41 .eql 40 64,.v 42 41,.N 43 42 (.f 1 5),.N 44 42 (.r 43),.N 45 42 (.f 1 4),.N 46 42 (.r 45),.N 47 42 (.h .sub 46 1),.N 48 42 (.b .shl (.i (-1)) nJ),.N 49 42 (.k .geq 44 48),.N 50 42 (.v 49),.Y 51 50 (.f 1 5),.Y 52 50 (.r 51),.Y 53 50 (.f 1 4),.Y 54 50 (.r 53),.Y 55 50 (.h .sub 54 1),.Y 56 50 (.b .shl lR tN),.Y 57 50 (.k .lss 52 56),.N 58 42 (.p 50 57),.o 59 42 58,.v 7 59])
@[go_sem ↓] theorem a9I:a7 HH:=a8 _
def LH:PC:=.gh (.reg [.f 62 1 5,.r 63 62,.h 64 .geq 63 0,.v 65 64,.Y 66 65 (.f 1 5),.Y 67 65 (.r 66),.Y 68 65 (.f 1 4),.Y 69 65 (.r 68),.Y 70 65 (.b .shl lR v6),.Y 71 65 (.k .lss 67 70),.p 72 65 71,.v 7 72])
@[go_sem ↓] theorem a4Z:a7 LH:=a8 _
def K3:PC:=.gh (.reg [.f 83 2 8,.r 84 83,.q 85 (.mf 138 [kM]),.a 86 (.cl 137 [(.t 84),(.t 85)] [2]),.v 7 86])
@[go_sem ↓] theorem a5A:a7 K3:=a8 _
def K8:PC:=.seq (.gh (.reg [.f 76 0 3,.n 77 3 76,.f 78 2 4,.r 79 78,.j 80 33 [(.t 77),(.t 79)],.v 75 80,.y 81 75 0,.y 82 75 1,.A 8 #[(.string (mk [])),(.slice none 0 0),(.slice none 0 0)] 70,.w 3 8 81,.v 9 82])) K3
@[go_sem ↓] theorem a4E:a7 K8:=a8 _
def MD:PC:=.seq (.gh (.reg [.h 74 .eql 26 7,.v 73 74])) (.I 73 K8)
@[go_sem ↓] theorem a4P:a7 MD:=a8 _
def RY:PC:=.seq (.gh (.reg [.h 61 .eql 26 3,.v 60 61])) (.C 60 LH MD)
@[go_sem ↓] theorem a8G:a7 RY:=a8 _
def S3:PC:=.seq (.gh (.reg [.h 38 .eql 26 2,.v 37 38])) (.C 37 HH RY)
@[go_sem ↓] theorem a8K:a7 S3:=a8 _
def pJ:PC:=.seq (.seq (.gh (.reg [.v 87 7,.t 88 87])) (.I 88 (.R [.c 6 4]))) (.R [.c 6 0])
@[go_sem ↓] theorem a3P:a7 pJ:=a8 _
def Q2:PC:=.S [.z 3 98 0,.z 4 45 1,.z 5 29 2,.c 6 0] (.seq (.S [.f 10 2 5,.r 11 10,.b 12 .neq kJ d8,.v 13 12,.N 14 13 (.f 3 5),.N 15 13 (.r 14),.N 16 13 (.m 15),.N 17 13 (.h .gtr 16 0),.o 18 13 17,.v 19 18,.N 20 19 (.f 4 5),.N 21 19 (.r 20),.N 22 19 (.m 21),.N 23 19 (.h .gtr 22 0),.o 24 19 23] (.I 24 (.R [.c 6 13]))) (.S [.F 7] (.seq (.S [.f 25 0 4,.r 26 25] (.block 0 (.S [.h 28 .eql 26 1,.v 27 28] (.C 27 RT S3)))) pJ)))
def QO:List RV:=[.mv (.t 6)]
theorem a5U:aU Tryz.prog true ⟨fun r k=>if r=13/\k=3 then .own [2] else .own [],fun r=>[7,9,11,12,14,6,8,10,13].contains r⟩ Tryz.f87=some (Q2,QO):=by kernel_rfl
def aXA:PC:=.S [.z 3 98 0,.z 4 45 1,.z 5 29 2,.c 6 0] (.seq (.block 0 (.S [.f 8 1 5,.r 9 8,.h 10 .neq 9 0,.v 11 10,.N 12 11 (.f 3 5),.N 13 11 (.r 12),.N 14 11 (.m 13),.N 15 11 (.h .gtr 14 0),.o 16 11 15,.v 17 16,.N 18 17 (.f 4 5),.N 19 17 (.r 18),.N 20 17 (.m 19),.N 21 17 (.h .gtr 20 0),.o 22 17 21,.v 7 22] (.C 7 (.R [.c 6 13]) (.S [.f 24 2 5,.r 25 24,.q 26 (.lnS kI),.f 27 1 4,.r 28 27,.k 29 .gtr 26 28,.v 23 29] (.I 23 (.R [.c 6 3])))))) (.R [.c 6 0]))
def aQU:List RV:=[.mv (.t 6)]
theorem a7G:aU Tryz.prog true ⟨fun _ _=>.own [],fun _=>false⟩ Tryz.f88=some (aXA,aQU):=by kernel_rfl
def Y0:PC:=.S [.z 3 98 0,.z 4 45 1,.z 5 29 2,.c 6 0] (.seq (.block 0 (.S [.f 11 1 5,.r 12 11,.h 13 .neq 12 0,.v 14 13,.N 15 14 (.f 2 5),.N 16 14 (.r 15),.N 17 14 (.b .neq lC d8),.o 18 14 17,.v 19 18,.N 20 19 (.f 4 5),.N 21 19 (.r 20),.N 22 19 (.m 21),.N 23 19 (.h .gtr 22 0),.o 24 19 23,.v 10 24] (.C 10 (.R [.c 6 13]) (.S [.f 26 3 5,.r 27 26,.m 28 27,.f 29 1 4,.r 30 29,.k 31 .gtr 28 30,.v 25 31] (.I 25 (.R [.c 6 3])))))) (.seq (.S [.f 32 3 5,.r 33 32,.m 34 33,.c 35 0] (.L 1 36 35 34 2 49 (.S [.x 37 5 33 35,.n 38 5 37,.A 8 gO 29,.w 5 8 38] (.S [.n 39 3 3,.f 40 3 4,.r 41 40,.l 42 (.ia 4 nB gZ),.n 43 4 42,.n 44 5 8,.u 45 48 [kY,mM,m7],.v 9 45] (.S [.v 46 9,.h 47 .neq 46 0] (.I 47 (.R [.v 48 9,.v 6 48]))))))) (.R [.c 6 0])))
def XM:List RV:=[.mv (.t 6)]
theorem a6A:aU Tryz.prog true ⟨fun r k=>if r=8/\k=6 then .q else .own [],fun _=>false⟩ Tryz.f89=some (Y0,XM):=by kernel_rfl
def HT:PC:=.seq (.gh (.reg [.v 63 13,.h 64 .neq 63 0])) (.I 64 (.R [.v 65 13,.v 6 65]))
@[go_sem ↓] theorem a6R:a7 HT:=a8 _
def SI:PC:=.seq (.gh (.reg [.n 57 3 3,.f 58 2 11,.n 59 4 58,.f 60 1 10,.n 61 5 60,.u 62 48 [A9,rR,tT],.v 13 62])) HT
@[go_sem ↓] theorem a8H:a7 SI:=a8 _
def SD:PC:=.seq (.gh (.reg [.n 51 2 7,.f 52 0 10,.r 53 52,.j 54 69 [(.t 51),tV],.v 50 54,.y 55 50 0,.y 56 50 1,.A 11 #[(.int .i64 0),(.string (mk [])),(.int .i64 0),(.int .i64 0),(.string (mk [])),(.slice none 0 0),(.bool false)] 47,.w 7 11 55,.v 12 56])) SI
@[go_sem ↓] theorem a6B:a7 SD:=a8 _
def HK:PC:=.seq (.seq (.gh (.reg [.f 22 1 5,.r 23 22,.h 24 .neq 23 0,.v 25 24,.N 26 25 (.f 2 5),.N 27 25 (.r 26),.N 28 25 (.b .neq oN d8),.o 29 25 28,.v 30 29,.N 31 30 (.f 3 5),.N 32 30 (.r 31),.N 33 30 (.m 32),.N 34 30 (.h .gtr 33 0),.o 35 30 34,.v 36 35,.N 37 36 (.n 2 7),.N 38 36 (.f 4 5),.N 39 36 (.r 38),.N 40 36 (.cq 139 [mI,kY]),.N 41 36 (.q (.not nL)),.o 42 36 41])) (.I 42 (.R [.c 6 13]))) (.seq (.S [.f 43 4 5,.r 44 43,.m 45 44,.c 46 0] (.L 0 47 46 45 1 66 (.S [.x 48 6 44 46,.n 49 6 48,.A 10 #[(.int .i64 0),(.int .i64 0),(.int .i64 0),(.string (mk [])),(.slice none 0 0),(.slice none 0 0)] 42,.w 6 10 49] SD))) (.R [.c 6 0]))
@[go_sem ↓] theorem a9J:a7 HK:=a8 _
def aSU:PC:=.S [.z 3 98 0,.z 4 45 1,.z 5 29 2,.c 6 0] (.S [.f 15 0 3,.n 16 3 15,.f 17 2 4,.r 18 17,.j 19 16 [lC,iV],.v 14 19,.y 20 14 0,.y 21 14 1,.A 7 #[(.string (mk [])),(.slice none 0 0)] 50,.w 2 7 20,.v 8 21] HK)
def aR3:List RV:=[.mv (.t 6)]
theorem a8X:aU Tryz.prog true ⟨fun r k=>if r=2/\k=18 then .q else if r=8/\k=5 then .q else .own [],fun r=>[2,7,8,9].contains r⟩ Tryz.f90=some (aSU,aR3):=by kernel_rfl
def JH:PC:=.S [.z 3 98 0,.z 4 45 1,.A 6 gO 29] (.seq (.S [.v 12 2,.h 13 .lss 12 0,.v 14 13,.N 15 14 (.n 3 3),.N 16 14 (.n 4 4),.N 17 14 (.cq 86 [jR,lC]),.N 18 14 (.q (.not mH)),.o 19 14 18] (.I 19 (.R [.q 20 (.bd [(.int .i64 0),(.int .i64 0),(.string (mk [])),(.slice none 0 0),(.slice none 0 0)] []),.w 5 6 20]))) (.S [.f 21 0 4,.r 22 21,.q 23 (.bd [(.int .i64 0),(.int .i64 0),(.string (mk [])),(.slice none 0 0),(.slice none 0 0)] [(0,1,jO)]),.A 7 gO 29,.w 5 7 23] (.seq (.S [.f 24 0 4,.r 25 24,.h 26 .neq 25 6] (.I 26 (.R [.n 27 5 7,.w 5 6 27]))) (.S [.f 29 0 3,.n 30 3 29,.f 31 2 4,.r 32 31,.j 33 16 [oO,qA],.v 28 33,.y 34 28 0,.y 35 28 1,.A 8 #[(.string (mk [])),(.slice none 0 0)] 50,.w 2 8 34,.v 9 35] (.seq (.S [.f 36 1 8,.r 37 36,.m 38 37,.c 39 0] (.L 0 40 39 38 1 60 (.S [.x 41 7 37 39,.n 42 7 41,.A 11 #[(.int .i64 0),(.string (mk [])),(.int .i64 0),(.int .i64 0),(.string (mk [])),(.slice none 0 0),(.bool false)] 47,.w 7 11 42] (.S [.f 43 6 11,.r 44 43,.t 45 44] (.I 45 (.ord [.q (.f 46 4 7),.q (.r 47 46),.q (.f 48 0 11),.q (.r 49 48),.q (.n 50 3 3),.q (.f 51 2 11),.q (.n 52 4 51),.q (.v 53 2),.q (.h 54 .sub 53 1),.m (.j 55 109 [oP,pU,wN]),.rc (.f 46 4 7),.rc (.r 47 46),.rc (.f 48 0 11),.rc (.r 49 48),.q (.q 56 (.bd [(.int .i64 0),(.int .i64 0),(.int .i64 0),(.string (mk [])),(.slice none 0 0),(.slice none 0 0)] [(0,1,pX),(1,5,tN)])),.m (.e 57 (.bsl 42 6 [rT])),.rc (.f 46 4 7),.rc (.r 47 46),.m (.e 58 (.ap 42 6 88 nJ A9)),.q (.f 59 4 7),.m (.w 1 59 58)])))))) (.R [.n 61 5 7,.w 5 6 61]))))))
def JM:List RV:=[.ld (.ldn 5 (.t 6))]
theorem a1Z:aU Tryz.prog true ⟨fun r k=>if r=1/\k=5 then .q else .own [],fun _=>false⟩ Tryz.f109=some (JH,JM):=by kernel_rfl
def aJJ:PC:=.S [.F 3] (.R [.v 4 0,.f 5 1 1,.r 6 5,.k 7 .eql 4 6,.v 3 7])
def aI5:List RV:=[.mv (.t 3)]
theorem a11:aU Tryz.prog true ⟨fun _ _=>.own [],fun _=>false⟩ Tryz.f138=some (aJJ,aI5):=by kernel_rfl
def uK:PC:=.seq (.gh (.reg [.v 25 8,.t 26 25,.v 27 26,.N 28 27 (.v 5),.N 29 27 (.h .gtr 28 0),.N 30 27 (.v 29),.Y 31 30 (.v 1),.Y 32 30 (.v 5),.Y 33 30 (.h .sub 32 1),.Y 34 30 (.x 6 31 33),.Y 35 30 (.f 0 34),.Y 36 30 (.r 35),.Y 37 30 (.f 0 6),.Y 38 30 (.r 37),.Y 39 30 (.k .geq 36 38),.N 40 27 (.p 30 39),.o 41 27 40])) (.I 41 (.R [.F 4]))
@[go_sem ↓] theorem a5O:a7 uK:=a8 _
def KD:PC:=.seq (.gh (.reg [.n 19 2 2,.f 20 0 6,.r 21 20,.j 22 69 [gT,hJ],.v 18 22,.y 23 18 0,.y 24 18 1,.A 7 #[(.int .i64 0),(.string (mk [])),(.int .i64 0),(.int .i64 0),(.string (mk [])),(.slice none 0 0),(.bool false)] 47,.w 7 7 23,.v 8 24])) uK
@[go_sem ↓] theorem a5F:a7 KD:=a8 _
def z7:PC:=.seq (.gh (.reg [.f 50 6 10,.r 51 50,.t 52 51,.v 53 52,.Y 54 53 (.v 1),.Y 55 53 (.q (.mf 170 [jK])),.Y 56 53 (.cl 169 [wN,tN] [1]),.Y 57 53 (.q (.not rT)),.p 58 53 57])) (.I 58 (.R [.F 4]))
@[go_sem ↓] theorem a0D:a7 z7:=a8 _
def LP:PC:=.seq (.seq (.gh (.reg [.f 43 1 2,.r 44 43,.m 45 44,.c 46 0])) (.L 2 47 46 45 3 59 (.S [.x 48 7 44 46,.n 49 7 48,.A 10 #[(.int .i64 0),(.string (mk [])),(.int .i64 0),(.int .i64 0),(.string (mk [])),(.slice none 0 0),(.bool false)] 47,.w 7 10 49] z7))) (.R [.T 4])
@[go_sem ↓] theorem a37:a7 LP:=a8 _
def aMQ:PC:=.S [.z 2 50 0,.F 4] (.seq (.S [.v 11 1,.m 12 11,.c 13 0] (.L 0 14 13 12 1 42 (.S [.v 15 13,.x 16 6 11 13,.n 17 6 16,.A 6 #[(.int .i64 0),(.int .i64 0),(.int .i64 0),(.string (mk [])),(.slice none 0 0),(.slice none 0 0)] 42,.v 5 15,.w 6 6 17] KD))) LP)
def aJH:List RV:=[.mv (.t 4)]
theorem a0O:aU Tryz.prog true ⟨fun r k=>if r=11/\k=6 then .own [1] else .own [],fun r=>[4,5,8,11].contains r⟩ Tryz.f139=some (aMQ,aJH):=by kernel_rfl
def aKT:PC:=.S [.z 2 42 0,.F 3] (.R [.f 4 0 2,.r 5 4,.f 6 0 1,.r 7 6,.k 8 .eql 5 7,.v 3 8])
def aL7:List RV:=[.mv (.t 3)]
theorem aZ9:aU Tryz.prog true ⟨fun _ _=>.own [],fun _=>false⟩ Tryz.f170=some (aKT,aL7):=by kernel_rfl
def uU (v:Vl):Bool:=(v.k != 5)&&(v.k != 6)&&((v.l.length:Int)==0)&&((v.f.length:Int)==0)
def sY (g:Vl->Int) (most:Int) (d:Int) (x:Vl):Int:=bif decide (d<=most) then max d (g x) else d
def x9 (g:Vl->Int) (most:Int) (d:Int) (x:Int×Vl):Int:=bif decide (d<=most) then max d (g x.2) else d
def TI (g:Vl->Int) (most:Int) (v:Vl):Int:=bif uU v then 0 else 1+v.f.foldl (x9 g most) (v.l.foldl (sY g most) 0)
def B5:Nat->Vl->Int
 |0=>TI (fun _=>0) (-1)
 |n+1=>TI (B5 n) n
def mU:Nat->Vl->Int
 |0=>fun _=>0
 |n+1=>B5 n
theorem IY (n:Nat):B5 n=TI (mU n) ((n:Int)-1):=by
 cases n with
 |zero=>rfl
 |succ n=>rw[B5,mU];congr 1;omega
theorem SF {g:Vl->Int} {most B:Int} (hg:∀x,0<=g x/\g x<=B) {d:Int} (h:0<=d/\d<=B) (x:Vl):0<=sY g most d x/\sY g most d x<=B:=by
 unfold sY
 cases decide (d<=most)
 · exact h
 · have:=hg x;show 0<=max d (g x)/\max d (g x)<=B;omega
theorem aBT {g:Vl->Int} {most B:Int} (hg:∀x,0<=g x/\g x<=B) {d:Int} (h:0<=d/\d<=B) (x:Int×Vl):0<=x9 g most d x/\x9 g most d x<=B:=SF hg h x.2
theorem yJ {α:Type} {f:Int->α->Int} {B:Int} (h:∀d x,0<=d/\d<=B->0<=f d x/\f d x<=B):∀(l:List α) (d:Int),0<=d/\d<=B->0<=l.foldl f d/\l.foldl f d<=B
 |[],_,hd=>hd
 |x::l,d,hd=>yJ h l (f d x) (h d x hd)
theorem yM:∀(n:Nat) (x:Vl),0<=mU n x/\mU n x<=n
 |0,_=>⟨iC _,iC _⟩
 |n+1,x=>by
  rw[mU,IY]
  unfold TI
  have h1:=yJ (f:=sY (mU n) ((n:Int)-1)) (fun d x h=>SF (yM n) h x) x.l 0 ⟨iC _,by omega⟩
  have h2:=yJ (f:=x9 (mU n) ((n:Int)-1)) (fun d x h=>aBT (yM n) h x) x.f _ h1
  cases uU x
  · show 0<=1+_/\1+_<=_;omega
  · show (0:Int)<=0/\(0:Int)<=_;omega
theorem OB {α β:Type} {f:β->α->β} {l:List α} {i:Nat} {x:α} (h:l[i]? = some x) (d:β):(l.take (i+1)).foldl f d=f ((l.take i).foldl f d) x:=by rw[cM h,zI];rfl
def IW (n:Nat):List S->Prop:=fun av=>match av with
 |[.va (.gs r),.va (.c1 (.vl (.int .i64 k)))]=>0<n/\qH r/\k=(n:Int)-2/\n<=100
 |_=>False
theorem sD {n:Nat} {av:List S} (h:IW n av):∃m v,n=m+1/\av=[.va (.gs (aW v)),iS .i64 ((m:Int)-1)]/\VlOk v/\m<=99:=by
 unfold IW at h
 split at h
 · obtain ⟨h0,⟨v,rfl,hv⟩,rfl,hn⟩:=h
   refine ⟨n-1,v,by omega,?_,hv,by omega⟩
   rw[show (n:Int)-2=((n-1:Nat):Int)-1 by omega]
 · exact h.elim
noncomputable def aAR (n:Nat):List S->A:=fun av=>match av with
 |[.va (.gs r),.va (.c1 (.vl (.int .i64 _)))]=>iA .i64 (mU n (C.vv r))
 |_=>.gs []
noncomputable def PN (n:Nat):Fun:=⟨IW n,aAR n,fun av h=>by obtain ⟨m,v,_,rfl,_⟩:=sD h;trivial⟩
theorem aBN {n:Nat}:∀av H K,(PN n).sp av H K->av.length=2:=fun av H K h=>by obtain ⟨m,v,_,rfl,_⟩:=sD h.1.1;rfl
attribute [go_sem] PN IW aAR
theorem WZ:∀n,Meets Tryz.prog 47 (PN n).sp
 |0=>⟨by kernel_rfl,by rintro xs vs E ro w K _ _ _ ⟨⟨h,_⟩,_⟩;obtain ⟨m,_,h,_⟩:=sD h;omega⟩
 |n+1=>by
  refine aF Tryz.func47 a6H 2 (by rw[Tryz.ntmps47];decide) (aG (WZ n) (aB _)) aBN ?_
  rintro av H K ⟨⟨h,rfl⟩,hK⟩
  obtain ⟨m,v,hm,rfl,hv,hm99⟩:=sD h
  obtain rfl:m=n:=by omega
  have hK:K (iS .i64 (B5 m v)) []:=by
   have:(PN (m+1)).val [.va (.gs (aW v)),iS .i64 ((m:Int)-1)]=iA .i64 (B5 m v):=by simp -dsimp only[go_sem,mU]
   rw[this] at hK;exact hK
  clear h hm
  rw[IY] at hK
  unfold TI at hK
  have hll:=hv.ll
  have hlf:=hv.lf
  have bd1:=fun i=>yJ (f:=sY (mU m) ((m:Int)-1)) (fun d x h=>SF (yM m) h x) (v.l.take i) 0 ⟨iC _,by omega⟩
  have fin:∀(z:Int) (R:Hp),(bif uU v then 0 else 1+v.f.foldl (x9 (mU m) ((m:Int)-1)) (v.l.foldl (sY (mU m) ((m:Int)-1)) 0))=z->W.Fin 0 K (iS .i64 z) R:=fun z R h=>by
   rw[h] at hK;exact .z ((by simpa[go_sem] using hK))
  clear hK
  cases hsc:uU v with
  |true=>
   have hs':=hsc
   unfold uU at hs'
   simp(maxSteps:=9^6)-dsimp only[go_sem,aJ v,aF8,aHK,hs']
   exact fin _ _ (by rw[hsc];rfl)
  |false=>
   have hs':=hsc
   unfold uU at hs'
   rw[hsc] at fin
   simp(maxSteps:=9^6)-dsimp only[go_sem,aJ v,aF8,aHK,hs']
   refine aO (α:=Nat) (fun i=>[(1,iS .i64 ((m:Int)-1)),(2,.va (.c1 (.pt 0 0))),(5,iS .i64 ((v.l.take i).foldl (sY (mU m) ((m:Int)-1)) 0)),(31,.va (.c1 (.fz (v.l.map aW)))),(32,iS .i64 v.l.length),(33,iS .i64 i)]) (fun _=>[.cells (bO v) 29])
    (fun i=>i<=v.l.length) (fun i=>v.l.length-i) 0 1 (aP _) ?_ ?_ ?_
   · simp -dsimp only[go_sem]<;>simp
   · simp -dsimp only[go_sem,bO]<;>simp
   intro i hi
   rcases bB i v.l.length with hlt|hge
   · have hg:decide ((i:Int)<(v.l.length:Int))=true:=by simp;omega
     obtain ⟨x,hx⟩:∃t,v.l[i]? = some t:=⟨_,aX hlt⟩
     have q1:=sC hx
     have hxm:=cC hx
     have k1:=dE (hv.l x hxm)
     have k2:=fV x
     have ft:=OB (f:=sY (mU m) ((m:Int)-1)) hx 0
     have hbd:=bd1 i
     generalize hd:(v.l.take i).foldl (sY (mU m) ((m:Int)-1)) 0=d at *
     have hgb:=yM m x
     cases hc:decide (d<=(m:Int)-1) with
     |true=>
      have hm0:0<m:=by have:=iO hc;omega
      have he:(m:Int)-1-1=(m:Int)-2:=by omega
      have hn:m<=100:=by omega
      simp(maxSteps:=9^6)-dsimp only[go_sem,hg,↓q1,bO,k1,k2,hc,he,hm0,hn]
      refine ⟨by omega,by omega,by omega,aC (i+1) 1 (by omega) (by omega) ?_ ?_⟩
      · simp -dsimp only[go_sem,ft,sY,hc]<;>simp
      · simp -dsimp only[go_sem,bO]<;>simp[bO]
     |false=>
      simp(maxSteps:=9^6)-dsimp only[go_sem,hg,↓q1,bO,hc]
      refine ⟨by omega,by omega,aC (i+1) 1 (by omega) (by omega) ?_ ?_⟩
      · simp -dsimp only[go_sem,ft,sY,hc]<;>simp
      · simp -dsimp only[go_sem,bO]<;>simp[bO]
   · have hg:decide ((i:Int)<(v.l.length:Int))=false:=by simp;omega
     obtain rfl:i=v.l.length:=by omega
     have hbd:=bd1 v.l.length
     rw[eC] at hbd ⊢
     simp(maxSteps:=9^6)-dsimp only[go_sem,hg,bO]
     generalize v.l.foldl (sY (mU m) ((m:Int)-1)) 0=D at *
     have bd2:=fun i=>yJ (f:=x9 (mU m) ((m:Int)-1)) (fun d x h=>aBT (yM m) h x) (v.f.take i) D hbd
     clear hi hge hg bd1
     refine aO (α:=Nat) (fun i=>[(1,iS .i64 ((m:Int)-1)),(2,.va (.c1 (.pt 0 0))),(5,iS .i64 ((v.f.take i).foldl (x9 (mU m) ((m:Int)-1)) D)),(48,.va (.c1 (.fz (v.f.map bG)))),(49,iS .i64 v.f.length),(50,iS .i64 i)]) (fun _=>[.cells (bO v) 29])
      (fun i=>i<=v.f.length) (fun i=>v.f.length-i) 0 1 (aP _) ?_ ?_ ?_
     · simp -dsimp only[go_sem]<;>simp
     · simp -dsimp only[go_sem,bO]<;>simp
     intro i hi
     rcases bB i v.f.length with hlt|hge
     · have hg:decide ((i:Int)<(v.f.length:Int))=true:=by simp;omega
       obtain ⟨x,hx⟩:∃t,v.f[i]? = some t:=⟨_,aX hlt⟩
       have q1:=kZ hx
       have hxm:=cC hx
       have k1:=dE (hv.f x hxm)
       have k2:=fV x.2
       have ft:=OB (f:=x9 (mU m) ((m:Int)-1)) hx D
       have hbd2:=bd2 i
       generalize hd:(v.f.take i).foldl (x9 (mU m) ((m:Int)-1)) D=d at *
       have hgb:=yM m x.2
       cases hc:decide (d<=(m:Int)-1) with
       |true=>
        have hm0:0<m:=by have:=iO hc;omega
        have he:(m:Int)-1-1=(m:Int)-2:=by omega
        have hn:m<=100:=by omega
        simp(maxSteps:=9^6)-dsimp only[go_sem,hg,↓q1,bO,k1,k2,hc,he,hm0,hn]
        refine ⟨by omega,by omega,by omega,aC (i+1) 1 (by omega) (by omega) ?_ ?_⟩
        · simp -dsimp only[go_sem,ft,x9,hc]<;>simp
        · simp -dsimp only[go_sem,bO]<;>simp[bO]
       |false=>
        simp(maxSteps:=9^6)-dsimp only[go_sem,hg,↓q1,bO,hc]
        refine ⟨by omega,by omega,aC (i+1) 1 (by omega) (by omega) ?_ ?_⟩
        · simp -dsimp only[go_sem,ft,x9,hc]<;>simp
        · simp -dsimp only[go_sem,bO]<;>simp[bO]
     · have hg:decide ((i:Int)<(v.f.length:Int))=false:=by simp;omega
       obtain rfl:i=v.f.length:=by omega
       have hbd2:=bd2 v.f.length
       rw[eC] at hbd2 ⊢
       simp(maxSteps:=9^6)-dsimp only[go_sem,hg,bO]
       exact ⟨by omega,fin _ _ rfl⟩
theorem HR:∀N,Meets Tryz.prog 86 (MK N).sp
 |0=>⟨by kernel_rfl,by rintro xs vs E ro w K _ _ _ ⟨⟨h,_⟩,_⟩;obtain ⟨_,a,_,_,_,h⟩:=nD h;have:=a.h_pos;omega⟩
 |N+1=>by
  refine aF Tryz.func86 a9N 2 (by rw[Tryz.ntmps86];decide) (aG (HR N) (aE jJ (aE IX (aB _)))) P7 ?_
  rintro av H K ⟨⟨h,rfl⟩,hK⟩
  obtain ⟨sc,t,rfl,hs,ht,hh⟩:=nD h
  have hK:K (bS (valF sc.ss sc.es t)) []:=by
   have:(MK (N+1)).val [.va (.gs (aA sc)),.va (.gs (aK t))]=bA (valF sc.ss sc.es t):=by simp -dsimp only[go_sem]
   rw[this] at hK;exact hK
  clear h
  have fin:∀(b:Bool) (R:Hp),valF sc.ss sc.es t=b->W.Fin 0 K (bS b) R:=fun b R h=>by
   rw[h] at hK
   exact .z ((by simp -dsimp only[go_sem];simpa using hK))
  clear hK
  cases t with
  |mk k s n e=>
  have hF:=valF.eq_1 sc.ss sc.es k s n e
  simp(maxSteps:=9^6)-dsimp only[go_sem,aA,aK,aR,aX9,aYP]
  refine ⟨fun k1=>fin _ _ (by rw[hF,k1];simp only[aQ];ac_rfl),fun k1=>aH rfl (.done ?_)⟩
  rw[k1,aI] at hF
  simp(maxSteps:=9^6)-dsimp only[go_sem,Q4]
  refine ⟨fun k2=>aH rfl (.done ?_),fun k2=>aH rfl (.done ?_)⟩
  · rw[k2,aQ] at hF
    have hF':valF sc.ss sc.es (.mk k s n e)=((bl n==[]&&(e.length:Int)==0)&&(s==8||s==16||s==32||s==64)):=by rw[hF];ac_rfl
    clear hF
    cases hp:(bl n==[]&&(e.length:Int)==0) with
    |false=>
     simp(maxSteps:=9^6)-dsimp only[go_sem,uR]
     exact fin _ _ (by rw[hF',hp];rfl)
    |true=>
     rw[hp,bF] at hF'
     cases h8:s==8 with
     |true=>
      simp(maxSteps:=9^6)-dsimp only[go_sem,uR,h8]
      exact fin _ _ (by rw[hF',h8];rfl)
     |false=>
     cases h16:s==16 with
     |true=>
      simp(maxSteps:=9^6)-dsimp only[go_sem,uR,h8,h16]
      exact fin _ _ (by rw[hF',h8,h16];rfl)
     |false=>
     cases h32:s==32 with
     |true=>
      simp(maxSteps:=9^6)-dsimp only[go_sem,uR,h8,h16,h32]
      exact fin _ _ (by rw[hF',h8,h16,h32];rfl)
     |false=>
      simp(maxSteps:=9^6)-dsimp only[go_sem,uR,h8,h16,h32]
      exact fin _ _ (by rw[hF',h8,h16,h32];rfl)
  rw[k2,aI] at hF
  simp(maxSteps:=9^6)-dsimp only[go_sem,S5]
  refine ⟨fun k3=>aH rfl (.done ?_),fun k3=>aH rfl (.done ?_)⟩
  · rw[k3] at hF
    simp only[aQ,dF,oV] at hF
    have hF':valF sc.ss sc.es (.mk k s n e)=((bl n==[]&&(e.length:Int)==0)&&(s==8||s==16||s==32)):=by rw[hF];ac_rfl
    clear hF
    cases hp:(bl n==[]&&(e.length:Int)==0) with
    |false=>
     simp(maxSteps:=9^6)-dsimp only[go_sem,x7]
     exact fin _ _ (by rw[hF',hp];rfl)
    |true=>
     rw[hp,bF] at hF'
     cases h8:s==8 with
     |true=>
      simp(maxSteps:=9^6)-dsimp only[go_sem,x7,h8]
      exact fin _ _ (by rw[hF',h8];rfl)
     |false=>
     cases h16:s==16 with
     |true=>
      simp(maxSteps:=9^6)-dsimp only[go_sem,x7,h8,h16]
      exact fin _ _ (by rw[hF',h8,h16];rfl)
     |false=>
      simp(maxSteps:=9^6)-dsimp only[go_sem,x7,h8,h16]
      exact fin _ _ (by rw[hF',h8,h16];rfl)
  rw[k3,aI] at hF
  simp(maxSteps:=9^6)-dsimp only[go_sem,TM]
  refine ⟨fun k4=>fin _ _ (by rw[hF,k4];simp only[aQ];ac_rfl),fun k4=>aH rfl (.done ?_)⟩
  rw[k4,aI] at hF
  simp(maxSteps:=9^6)-dsimp only[go_sem,J6]
  refine ⟨fun k5=>aH rfl (.done ?_),fun k5=>aH rfl (.done ?_)⟩
  · rw[k5,aQ] at hF
    have no:∀{R:Hp},(bl n==[])=false\/decide (1<=s)=false\/decide (s<=32)=false\/((e.length:Int)==1)=false->W.Fin 0 K (bS false) R:=fun h=>fin _ _ (by
     rw[hF]
     rcases h with h|h|h|h
     · rw[h,dF,bL]
     · rw[h,bL,bL,bL]
     · rw[h,dF,bL,bL]
     · match e,h with
       |[],_=>simp[p8]
       |[u],h=>simp at h
       |u::v::r,_=>simp[p8])
    cases h1:bl n==[] with
    |false=>
     simp(maxSteps:=9^6)-dsimp only[go_sem,qY,h1]
     exact no (.inl h1)
    |true=>
    cases h2:decide (1<=s) with
    |false=>
     simp(maxSteps:=9^6)-dsimp only[go_sem,qY,h1,h2]
     exact no (.inr (.inl h2))
    |true=>
    cases h3:decide (s<=32) with
    |false=>
     simp(maxSteps:=9^6)-dsimp only[go_sem,qY,h1,h2,h3]
     exact no (.inr (.inr (.inl h3)))
    |true=>
    cases h4:(e.length:Int)==1 with
    |false=>
     simp(maxSteps:=9^6)-dsimp only[go_sem,qY,h1,h2,h3,h4]
     exact no (.inr (.inr (.inr h4)))
    |true=>
     have hl1:(e.length:Int)=1:=by simpa using h4
     obtain ⟨u,rfl⟩:∃u,e=[u]:=lZ.1 (by omega)
     have hF':valF sc.ss sc.es (.mk k s n [u])=valF sc.ss sc.es u:=by rw[hF,h1,h2,h3];simp[p8]
     have hu2:u.h<=N:=by rw[Ty.h,Ty.hs,Ty.hs] at hh;omega
     have hu:dG (aK u):=bM (ht.e u (by simp[Ty.e]))
     have hsf:=cN hs
     rw[aA] at hsf
     have hsd:=cT sc
     rw[aA] at hsd
     have h4':(((1:Nat):Int)==1)=true:=rfl
     simp(maxSteps:=9^6)-dsimp only[go_sem,qY,h1,h2,h3,h4']
     refine ⟨⟨by omega,fun r hr=>by subst hr;exact dR u⟩,fun r hr=>?_⟩
     subst hr
     simp(maxSteps:=9^6)-dsimp only[go_sem,hsf,hsd,hu,dR]
     exact ⟨hu2,fin _ _ hF'⟩
  rw[k5,aI] at hF
  simp(maxSteps:=9^6)-dsimp only[go_sem,ME]
  refine ⟨fun k6=>aH rfl (.done ?_),fun k6=>aH rfl (.done ?_)⟩
  · rw[k6,aQ] at hF
    simp(maxSteps:=9^6)-dsimp only[go_sem,ML]
    refine dJ hs ?_
    simp(maxSteps:=9^6)-dsimp only[go_sem,aD]
    refine aH rfl (.done ?_)
    cases h1:aZ sc.ss n<;>cases h2:s==0 <;>
    · simp(maxSteps:=9^6)-dsimp only[go_sem,MC,h2]
      exact fin _ _ (by rw[hF,h1,h2];rfl)
  rw[k6,aI] at hF
  simp(maxSteps:=9^6)-dsimp only[go_sem,MR]
  refine ⟨fun k7=>aH rfl (.done ?_),fun k7=>fin _ _ (by rw[hF,k7];rfl)⟩
  rw[k7,aQ] at hF
  simp(maxSteps:=9^6)-dsimp only[go_sem,MY]
  refine j9 hs ?_
  simp(maxSteps:=9^6)-dsimp only[go_sem,aV]
  refine aH rfl (.done ?_)
  cases h1:cI sc.es n<;>cases h2:s==0 <;>
  · simp(maxSteps:=9^6)-dsimp only[go_sem,KO,h2]
    exact fin _ _ (by rw[hF,h1,h2];rfl)
theorem FU:Meets Tryz.prog 86 r0Fn.sp:=dB 0 HR fun av H K ⟨⟨h,e⟩,hK⟩=>by
 obtain ⟨a,b,rfl,ha,hb⟩:=p9 h
 exact ⟨b.h,⟨⟨⟨cN ha,bM hb,by rw[eF];exact bE _⟩,e⟩,hK⟩⟩
def jX (s:Sc) (t:Ty) (n:Int):Bool:=
 bif t.k==1 then n==0||n==1
 else bif t.k==2 then t.s==64||(decide (-(2 ^ (t.s.toNat-1):Int)<=n)&&decide (n<(2 ^ (t.s.toNat-1):Int)))
 else bif t.k==3 then decide (0<=n)&&decide (n<(2 ^ t.s.toNat:Int))
 else bif t.k==7 then ((cO s.es t.n).getD default).vs.any fun x=>x==n else false
def BF (s:Sc) (t:Ty) (n:Int) (str:ByteArray) (ll lf:Int):Int:=bif !(bl str==[])||decide (0<ll)||decide (0<lf) then 13 else bif jX s t n then 0 else 4
def zT (t:Ty) (n:Int) (str:ByteArray) (ll lf:Int):Int:=bif n != 0||decide (0<ll)||decide (0<lf) then 13 else bif decide (t.s<((bl str).length:Int)) then 3 else 0
def ltO:Option Int->Int->Bool
 |none,_=>true
 |some q,n=>decide (q<n)
def ftA (fs:List Fl):Option Int->List (Int×Vl)->Bool
 |_,[]=>true
 |p,x::r=>(fF fs x.1).isSome&&ltO p x.1&&ftA fs (some x.1) r
theorem zY (fs:List Fl) (p:Option Int) (x:Int×Vl) (r:List (Int×Vl)):ftA fs p (x::r)=((fF fs x.1).isSome&&ltO p x.1&&ftA fs (some x.1) r):=by rw[ftA.eq_def]
theorem VD (fs:List Fl) (p:Option Int):ftA fs p []=true:=by rw[ftA.eq_def]
def qX (l:List (Int×Vl)) (n:Int):Bool:=l.any fun y=>y.1==n
def eY (fs:List Fl) (l:List (Int×Vl)):Bool:=ftA fs none l&&fs.all fun f=>f.opt||qX l f.num
mutual
def gB (s:Sc) (t:Ty):Vl->Int
 |.mk k n str l f=>
  bif !(valF s.ss s.es t)||k != t.k then 13
  else bif t.k==4 then zT t n str l.length f.length
  else bif t.k==5 then (bif n != 0||!(bl str==[])||decide (0<(f.length:Int)) then 13 else bif decide (t.s<(l.length:Int)) then 3 else qU s (t.e.headD default) l)
  else bif t.k==6 then (bif n != 0||!(bl str==[])||decide (0<(l.length:Int))||!(eY ((fS s.ss t.n).getD default).fs f) then 13 else qT s ((fS s.ss t.n).getD default).fs f)
  else BF s t n str l.length f.length
def qU (s:Sc) (t:Ty):List Vl->Int
 |[]=>0
 |v::r=>bif gB s t v != 0 then gB s t v else qU s t r
def qT (s:Sc) (fs:List Fl):List (Int×Vl)->Int
 |[]=>0
 | (i,v)::r=>bif gB s ((fF fs i).getD default).ty v != 0 then gB s ((fF fs i).getD default).ty v else qT s fs r
end
theorem ZR (s:Sc) (t:Ty) (v:Vl):gB s t v=bif !(valF s.ss s.es t)||v.k != t.k then 13
 else bif t.k==4 then zT t v.n v.s v.l.length v.f.length
 else bif t.k==5 then (bif v.n != 0||!(bl v.s==[])||decide (0<(v.f.length:Int)) then 13 else bif decide (t.s<(v.l.length:Int)) then 3 else qU s (t.e.headD default) v.l)
 else bif t.k==6 then (bif v.n != 0||!(bl v.s==[])||decide (0<(v.l.length:Int))||!(eY ((fS s.ss t.n).getD default).fs v.f) then 13 else qT s ((fS s.ss t.n).getD default).fs v.f)
 else BF s t v.n v.s v.l.length v.f.length:=by cases v;rw[gB];rfl
theorem QK (s:Sc) (fs:List Fl) (x:Int×Vl) (r:List (Int×Vl)):qT s fs (x::r)=bif gB s ((fF fs x.1).getD default).ty x.2 != 0 then gB s ((fF fs x.1).getD default).ty x.2 else qT s fs r:=by cases x;rw[qT]
abbrev nuV:S:=.va (.c1 (.fn 138 [(false,[.pt 0 0])]))
def aUL:W.Spec:=fun av H K=>∃(x:Int) (v:Vl),av=[iS .i64 x,.va (.c1 (.pt 0 0))]/\H=[.cells (bO v) 29]/\K (bS (x==v.n)) [.cells (bO v) 29]
theorem aTQ {x:Int} {v:Vl} {K:S->Hp->Prop} (hK:K (bS (x==v.n)) [.cells (bO v) 29]):aUL [iS .i64 x,.va (.c1 (.pt 0 0))] [.cells (bO v) 29] K:=⟨x,v,rfl,rfl,hK⟩
theorem aGQ:Meets Tryz.prog 138 aUL:=by
 refine aF Tryz.func138 a11 2 (by rw[Tryz.ntmps138];decide) (aB _) (fun av H K h=>by obtain ⟨_,_,rfl,_⟩:=h;rfl) ?_
 rintro av H K ⟨x,v,rfl,rfl,hK⟩
 simp -dsimp only[go_sem,bO,aJJ,aI5]
 exact .sel [0] (by simp) (by simp) rfl (.done (by simpa[go_sem,bO] using hK))
def IC (p:Int->Bool):List Int->Nat->Int
 |[],_=>-1
 |x::l,i=>bif p x then (i:Int) else IC p l (i+1)
theorem VJ (p:Int->Bool):∀(l:List Int) (i:Nat),decide (0<=IC p l i)=l.any p
 |[],_=>rfl
 |x::l,i=>by
  rw[sZ,IC]
  cases h:p x
  · rw[aI,VJ p l (i+1),bK]
  · simp
def aS1:W.Spec:=fun av H K=>∃(l:List Int) (v:Vl),av=[.va (.c1 (.fz (l.map cV))),nuV]/\H=[.cells (bO v) 29]/\l.length<=9223372036854775807/\K (iS .i64 (IC (fun x=>x==v.n) l 0)) [.cells (bO v) 29]
theorem aTL {l:List Int} {v:Vl} {K:S->Hp->Prop} (h:l.length<=9223372036854775807) (hK:K (iS .i64 (IC (fun x=>x==v.n) l 0)) [.cells (bO v) 29]):aS1 [.va (.c1 (.fz (l.map cV))),nuV] [.cells (bO v) 29] K:=⟨l,v,rfl,rfl,h,hK⟩
theorem aPE:Meets Tryz.prog 168 aS1:=by
 refine aF Tryz.func168 a28 2 (by rw[Tryz.ntmps168];decide) (aE aGQ (aB _)) (fun av H K h=>by obtain ⟨_,_,rfl,_⟩:=h;rfl) ?_
 rintro av H K ⟨l,v,rfl,rfl,hl,hK⟩
 simp -dsimp only[go_sem,aK4,aMS]
 refine aO (α:=Nat) (fun i=>[(0,.va (.c1 (.fz (l.map cV)))),(1,nuV),(7,iS .i64 l.length),(8,iS .i64 i)]) (fun _=>[.cells (bO v) 29])
  (fun i=>i<=l.length/\IC (fun x=>x==v.n) (l.drop i) i=IC (fun x=>x==v.n) l 0) (fun i=>l.length-i) 0 1 ⟨aP _,rfl⟩ ?_ ?_ ?_
 · simp -dsimp only[go_sem]<;>simp
 · simp -dsimp only[go_sem,bO]<;>simp
 rintro i ⟨hi,ho⟩
 rcases bB i l.length with hlt|hge
 · have hg:decide ((i:Int)<(l.length:Int))=true:=by simp;omega
   have hx:l[i]? = some l[i]:=aX hlt
   have q2:=aS (row:=cV) hx
   rw[cG hlt,IC] at ho
   generalize l[i]=y at *
   simp -dsimp only[go_sem,hg,↓q2]
   refine ⟨by omega,aTQ ?_⟩
   cases hc:y==v.n with
   |true=>
    rw[hc,aQ] at ho
    simp -dsimp only[go_sem]
    exact .sel [0] (by simp) (by simp) rfl (.done (by simpa[go_sem,bO,ho] using hK))
   |false=>
    rw[hc,aI] at ho
    simp -dsimp only[go_sem]
    refine ⟨by omega,aC (i+1) 1 ⟨by omega,ho⟩ (by omega) ?_ ?_⟩
    · simp -dsimp only[go_sem]<;>simp
    · simp -dsimp only[go_sem,bO]<;>simp[bO]
 · have hg:decide ((i:Int)<(l.length:Int))=false:=by simp;omega
   have:l.drop i=[]:=iD.2 (by omega)
   rw[this] at ho
   simp -dsimp only[go_sem,hg]
   exact .sel [0] (by simp) (by simp) rfl (.done (by rw[show IC (fun x=>x==v.n) l 0=-1 from ho.symm] at hK;simpa[go_sem,bO] using hK))
def aSO:W.Spec:=fun av H K=>∃(l:List Int) (v:Vl),av=[.va (.c1 (.fz (l.map cV))),nuV]/\H=[.cells (bO v) 29]/\l.length<=9223372036854775807/\K (bS (l.any fun x=>x==v.n)) [.cells (bO v) 29]
theorem aTF {l:List Int} {v:Vl} {K:S->Hp->Prop} (h:l.length<=9223372036854775807) (hK:K (bS (l.any fun x=>x==v.n)) [.cells (bO v) 29]):aSO [.va (.c1 (.fz (l.map cV))),nuV] [.cells (bO v) 29] K:=⟨l,v,rfl,rfl,h,hK⟩
theorem ZD:Meets Tryz.prog 137 aSO:=by
 refine aF Tryz.func137 a1X 2 (by rw[Tryz.ntmps137];decide) (aE aPE (aB _)) (fun av H K h=>by obtain ⟨_,_,rfl,_⟩:=h;rfl) ?_
 rintro av H K ⟨l,v,rfl,rfl,hl,hK⟩
 simp -dsimp only[go_sem,bO,aIA,aJP]
 refine aTL hl ?_
 simp -dsimp only[go_sem,bO,VJ]
 exact .sel [0] (by simp) (by simp) rfl (.done (by simpa[go_sem,bO] using hK))
abbrev neV:S:=.va (.c1 (.fn 170 [(false,[.pt 0 0])]))
def W1 (x:Int×Vl):List C:=[.vl (.int .i64 x.1),.vl (.int .i64 x.2.k),.vl (.int .i64 x.2.n),.vl (.string x.2.s),.fz (x.2.l.map aW),.fz (x.2.f.map bG)]
def aLP:W.Spec:=fun av H K=>∃(x:Int×Vl) (f:Fl),av=[.va (.gs (W1 x)),.va (.c1 (.pt 0 0))]/\H=[.cells (aN f) 47]/\K (bS (x.1==f.num)) [.cells (aN f) 47]
theorem aOZ {x:Int×Vl} {f:Fl} {K:S->Hp->Prop} (hK:K (bS (x.1==f.num)) [.cells (aN f) 47]):aLP [.va (.gs (W1 x)),.va (.c1 (.pt 0 0))] [.cells (aN f) 47] K:=⟨x,f,rfl,rfl,hK⟩
theorem aXO:Meets Tryz.prog 170 aLP:=by
 refine aF Tryz.func170 aZ9 2 (by rw[Tryz.ntmps170];decide) (aB _) (fun av H K h=>by obtain ⟨_,_,rfl,_⟩:=h;rfl) ?_
 rintro av H K ⟨x,f,rfl,rfl,hK⟩
 simp -dsimp only[go_sem,W1,aN,aKT,aL7]
 exact .sel [0] (by simp) (by simp) rfl (.done (by simpa[go_sem,aN] using hK))
def pR (n:Int):List (Int×Vl)->Nat->Int
 |[],_=>-1
 |x::l,i=>bif x.1==n then (i:Int) else pR n l (i+1)
theorem U0 (n:Int):∀(l:List (Int×Vl)) (i:Nat),decide (0<=pR n l i)=qX l n
 |[],_=>rfl
 |x::l,i=>by
  rw[qX,sZ,pR]
  cases h:x.1==n
  · rw[aI,U0 n l (i+1),bK];rfl
  · simp
def aWZ:W.Spec:=fun av H K=>∃(l:List (Int×Vl)) (f:Fl),av=[.va (.c1 (.fz (l.map bG))),neV]/\H=[.cells (aN f) 47]/\l.length<=9223372036854775807/\K (iS .i64 (pR f.num l 0)) [.cells (aN f) 47]
theorem aRZ {l:List (Int×Vl)} {f:Fl} {K:S->Hp->Prop} (h:l.length<=9223372036854775807) (hK:K (iS .i64 (pR f.num l 0)) [.cells (aN f) 47]):aWZ [.va (.c1 (.fz (l.map bG))),neV] [.cells (aN f) 47] K:=⟨l,f,rfl,rfl,h,hK⟩
theorem aPV:Meets Tryz.prog 148 aWZ:=by
 refine aF Tryz.func148 aK9 2 (by rw[Tryz.ntmps148];decide) (aE aXO (aB _)) (fun av H K h=>by obtain ⟨_,_,rfl,_⟩:=h;rfl) ?_
 rintro av H K ⟨l,f,rfl,rfl,hl,hK⟩
 simp -dsimp only[go_sem,ZC,XQ]
 refine aO (α:=Nat) (fun i=>[(0,.va (.c1 (.fz (l.map bG)))),(1,neV),(7,iS .i64 l.length),(8,iS .i64 i)]) (fun _=>[.cells (aN f) 47])
  (fun i=>i<=l.length/\pR f.num (l.drop i) i=pR f.num l 0) (fun i=>l.length-i) 0 1 ⟨aP _,rfl⟩ ?_ ?_ ?_
 · simp -dsimp only[go_sem]<;>simp
 · simp -dsimp only[go_sem,aN]<;>simp
 rintro i ⟨hi,ho⟩
 rcases bB i l.length with hlt|hge
 · have hg:decide ((i:Int)<(l.length:Int))=true:=by simp;omega
   have hx:l[i]? = some l[i]:=aX hlt
   have q2:=kZ hx
   rw[cG hlt,pR] at ho
   generalize l[i]=y at *
   simp -dsimp only[go_sem,hg,↓q2]
   refine ⟨by omega,aOZ ?_⟩
   cases hc:y.1==f.num with
   |true=>
    rw[hc,aQ] at ho
    simp -dsimp only[go_sem]
    exact .sel [0] (by simp) (by simp) rfl (.done (by simpa[go_sem,aN,ho] using hK))
   |false=>
    rw[hc,aI] at ho
    simp -dsimp only[go_sem]
    refine ⟨by omega,aC (i+1) 1 ⟨by omega,ho⟩ (by omega) ?_ ?_⟩
    · simp -dsimp only[go_sem]<;>simp
    · simp -dsimp only[go_sem,aN]<;>simp[aN]
 · have hg:decide ((i:Int)<(l.length:Int))=false:=by simp;omega
   have:l.drop i=[]:=iD.2 (by omega)
   rw[this] at ho
   simp -dsimp only[go_sem,hg]
   exact .sel [0] (by simp) (by simp) rfl (.done (by rw[show pR f.num l 0=-1 from ho.symm] at hK;simpa[go_sem,aN] using hK))
def aSK:W.Spec:=fun av H K=>∃(l:List (Int×Vl)) (f:Fl),av=[.va (.c1 (.fz (l.map bG))),neV]/\H=[.cells (aN f) 47]/\l.length<=9223372036854775807/\K (bS (qX l f.num)) [.cells (aN f) 47]
theorem aVE {l:List (Int×Vl)} {f:Fl} {K:S->Hp->Prop} (h:l.length<=9223372036854775807) (hK:K (bS (qX l f.num)) [.cells (aN f) 47]):aSK [.va (.c1 (.fz (l.map bG))),neV] [.cells (aN f) 47] K:=⟨l,f,rfl,rfl,h,hK⟩
theorem ZI:Meets Tryz.prog 169 aSK:=by
 refine aF Tryz.func169 aZ0 2 (by rw[Tryz.ntmps169];decide) (aE aPV (aB _)) (fun av H K h=>by obtain ⟨_,_,rfl,_⟩:=h;rfl) ?_
 rintro av H K ⟨l,f,rfl,rfl,hl,hK⟩
 simp -dsimp only[go_sem,aN,aMD,aKU]
 refine aRZ hl ?_
 simp -dsimp only[go_sem,aN,U0]
 exact .sel [0] (by simp) (by simp) rfl (.done (by simpa[go_sem,aN] using hK))
def O9 (P:Sc->Ty->Vl->Prop):List S->Prop:=fun av=>match av with
 |[.va (.gs r),.va (.gs q),.va (.gs p)]=>kF r/\dG q/\qH p/\P (C.sc r) (C.ty q) (C.vv p)
 |_=>False
theorem BE {P:Sc->Ty->Vl->Prop} {av:List S} (h:O9 P av):∃s t v,av=[.va (.gs (aA s)),.va (.gs (aK t)),.va (.gs (aW v))]/\s.fit/\TyOk t/\VlOk v/\P s t v:=by
 unfold O9 at h
 split at h
 · obtain ⟨⟨s,rfl,hs⟩,⟨t,rfl,ht⟩,⟨v,rfl,hv⟩,h⟩:=h
   rw[cT,eF,jL] at h
   exact ⟨s,t,v,rfl,hs,ht,hv,h⟩
 · exact h.elim
noncomputable def aK2 (f:Sc->Ty->Vl->Value):List S->A:=fun av=>match av with
 |[.va (.gs r),.va (.gs q),.va (.gs p)]=>.c1 (.vl (f (C.sc r) (C.ty q) (C.vv p)))
 |_=>.gs []
noncomputable def kK (P:Sc->Ty->Vl->Prop) (f:Sc->Ty->Vl->Value):Fun:=⟨O9 P,aK2 f,fun av h=>by obtain ⟨_,_,_,rfl,_⟩:=BE h;trivial⟩
theorem jM {P:Sc->Ty->Vl->Prop} {f:Sc->Ty->Vl->Value}:∀av H K,(kK P f).sp av H K->av.length=3:=fun av H K h=>by obtain ⟨_,_,_,rfl,_⟩:=BE h.1.1;rfl
attribute [go_sem] kK O9 aK2
theorem gQ {P:Sc->Ty->Vl->Prop} {f:Sc->Ty->Vl->Value} {av:List S} {H:Hp} {K:S->Hp->Prop} (h:(kK P f).sp av H K) :
 ∃s t v,av=[.va (.gs (aA s)),.va (.gs (aK t)),.va (.gs (aW v))]/\H=[]/\s.fit/\TyOk t/\VlOk v/\P s t v/\K (.va (.c1 (.vl (f s t v)))) []:=by
 obtain ⟨⟨h,rfl⟩,hK⟩:=h
 obtain ⟨s,t,v,rfl,hs,ht,hv,hp⟩:=BE h
 have:(kK P f).val [.va (.gs (aA s)),.va (.gs (aK t)),.va (.gs (aW v))]=.c1 (.vl (f s t v)):=by simp -dsimp only[go_sem]
 rw[this] at hK
 exact ⟨s,t,v,rfl,rfl,hs,ht,hv,hp,hK⟩
theorem aXY:Meets Tryz.prog 88 (kK (fun _ _ _=>True) fun _ t v=>.int .i64 (zT t v.n v.s v.l.length v.f.length)).sp:=by
 refine aF Tryz.func88 a7G 3 (by rw[Tryz.ntmps88];decide) (aB _) jM ?_
 intro av H K h
 obtain ⟨s,t,v,rfl,rfl,hs,ht,hv,_,hK⟩:=gQ h
 clear h
 have fin:∀(z:Int) (R:Hp),zT t v.n v.s v.l.length v.f.length=z->W.Fin 0 K (iS .i64 z) R:=fun z R h=>by
  rw[h] at hK;exact .z ((by simpa[go_sem] using hK))
 clear hK
 unfold zT at fin
 cases h1:v.n != 0<;>cases h2:decide (0<(v.l.length:Int))<;>cases h3:decide (0<(v.f.length:Int))<;>cases h4:decide (t.s<((bl v.s).length:Int)) <;>
 · rw[h1,h2,h3,h4] at fin
   simp(maxSteps:=9^6)-dsimp only[go_sem,aA,aY t,aJ v,aXA,aQU,h1,h2,h3,h4]
   exact fin _ _ rfl
theorem aUK {ss:List St} {es:List En} {t:Ty} (h:valF ss es t=true) (k:(t.k==2)=true):t.s=8\/t.s=16\/t.s=32\/t.s=64:=by
 cases t with
 |mk k0 s n e=>
  obtain rfl:k0=2:=by have k:(k0==2)=true:=k;simpa using k
  rw[valF] at h
  have:(s==8||s==16||s==32||s==64)=true:=by
   simp only[show ((2:Int)==1)=false from rfl,show ((2:Int)==2)=true from rfl,aQ,aI,bI] at h
   exact h.1.1
  show s=8\/s=16\/s=32\/s=64
  simp only[fB,beq_iff_eq] at this
  omega
theorem aE3 {ss:List St} {es:List En} {t:Ty} (h:valF ss es t=true) (k:(t.k==3)=true):t.s=8\/t.s=16\/t.s=32:=by
 cases t with
 |mk k0 s n e=>
  obtain rfl:k0=3:=by have k:(k0==3)=true:=k;simpa using k
  rw[valF] at h
  have:(s==8||s==16||s==32)=true:=by
   simp only[show ((3:Int)==1)=false from rfl,show ((3:Int)==2)=false from rfl,show ((3:Int)==3)=true from rfl,aQ,aI,bI,dF,oV] at h
   exact h.1.1
  show s=8\/s=16\/s=32
  simp only[fB,beq_iff_eq] at this
  omega
theorem aGJ:Meets Tryz.prog 87 (kK (fun s t _=>valF s.ss s.es t=true) fun s t v=>.int .i64 (BF s t v.n v.s v.l.length v.f.length)).sp:=by
 refine aF Tryz.func87 a5U 3 (by rw[Tryz.ntmps87];decide) (aE IX (aE ZD (aB _))) jM ?_
 intro av H K h
 obtain ⟨s,t,v,rfl,rfl,hs,ht,hv,hp,hK⟩:=gQ h
 clear h
 have fin:∀(z:Int) (R:Hp),BF s t v.n v.s v.l.length v.f.length=z->W.Fin 0 K (iS .i64 z) R:=fun z R h=>by
  rw[h] at hK;exact .z ((by simpa[go_sem] using hK))
 clear hK
 unfold BF at fin
 cases h1:bl v.s==[] with
 |false=>
  rw[h1] at fin
  simp(maxSteps:=9^6)-dsimp only[go_sem,aA,aY t,aJ v,Q2,QO,h1]
  exact fin _ _ rfl
 |true=>
 cases h2:decide (0<(v.l.length:Int)) with
 |true=>
  rw[h1,h2] at fin
  simp(maxSteps:=9^6)-dsimp only[go_sem,aA,aY t,aJ v,Q2,QO,h1,h2]
  exact fin _ _ rfl
 |false=>
 cases h3:decide (0<(v.f.length:Int)) with
 |true=>
  rw[h1,h2,h3] at fin
  simp(maxSteps:=9^6)-dsimp only[go_sem,aA,aY t,aJ v,Q2,QO,h1,h2,h3]
  exact fin _ _ rfl
 |false=>
 rw[h1,h2,h3] at fin
 simp only[bN,uG,aI] at fin
 unfold jX at fin
 simp(maxSteps:=9^6)-dsimp only[go_sem,aA,aY t,aJ v,Q2,QO,h1,h2,h3]
 refine ⟨fun k1=>aH rfl (.done ?_),fun k1=>aH rfl (.done ?_)⟩
 · rw[k1,aQ] at fin
   simp(maxSteps:=9^6)-dsimp only[go_sem,RT]
   refine aH rfl (.done ?_)
   cases h4:(v.n==0||v.n==1) <;>
   · rw[h4] at fin
     simp(maxSteps:=9^6)-dsimp only[go_sem,pJ]
     exact fin _ _ rfl
 rw[k1,aI] at fin
 simp(maxSteps:=9^6)-dsimp only[go_sem,S3]
 refine ⟨fun k2=>aH rfl (.done ?_),fun k2=>aH rfl (.done ?_)⟩
 · rw[k2,aQ] at fin
   cases h64:t.s==64 with
   |true=>
    rw[h64] at fin
    simp(maxSteps:=9^6)-dsimp only[go_sem,HH,h64,bL]
    refine aH rfl (.done ?_)
    simp(maxSteps:=9^6)-dsimp only[go_sem,pJ]
    exact fin _ _ rfl
   |false=>
    rw[h64,bK] at fin
    obtain ⟨b1,b2,e1,e2⟩:8<=t.s/\t.s<=32/\IntKind.i64.wrap (-1*2 ^ min (t.s-1).toNat 64)=-(2 ^ (t.s.toNat-1):Int)/\IntKind.i64.wrap (1*2 ^ min (t.s-1).toNat 64)=(2 ^ (t.s.toNat-1):Int):=by
     rcases aUK hp k2 with hz|hz|hz|hz
     · rw[hz];decide
     · rw[hz];decide
     · rw[hz];decide
     · rw[hz] at h64;simp at h64
    have f1:(0<=t.s-1)=True:=eq_true (by omega)
    have f2:(-9223372036854775808<=t.s-1)=True:=eq_true (by omega)
    have f3:(t.s-1<=9223372036854775807)=True:=eq_true (by omega)
    generalize (2 ^ (t.s.toNat-1):Int)=hi at *
    cases h4:decide (-hi<=v.n)<;>cases h5:decide (v.n<hi) <;>
    · rw[h4,h5] at fin
      simp(maxSteps:=9^6)-dsimp only[go_sem,HH,h64,e1,e2,h4,h5,f1,f2,f3]
      refine aH rfl (.done ?_)
      simp(maxSteps:=9^6)-dsimp only[go_sem,pJ]
      exact fin _ _ rfl
 rw[k2,aI] at fin
 simp(maxSteps:=9^6)-dsimp only[go_sem,RY]
 refine ⟨fun k3=>aH rfl (.done ?_),fun k3=>aH rfl (.done ?_)⟩
 · rw[k3,aQ] at fin
   obtain ⟨b1,e1⟩:0<=t.s/\IntKind.i64.wrap (1*2 ^ min t.s.toNat 64)=(2 ^ t.s.toNat:Int):=by
    rcases aE3 hp k3 with hz|hz|hz
    · rw[hz];decide
    · rw[hz];decide
    · rw[hz];decide
   generalize (2 ^ t.s.toNat:Int)=hi at *
   cases h4:decide (0<=v.n)<;>cases h5:decide (v.n<hi) <;>
   · rw[h4,h5] at fin
     simp(maxSteps:=9^6)-dsimp only[go_sem,LH,e1,h4,h5,b1]
     refine aH rfl (.done ?_)
     simp(maxSteps:=9^6)-dsimp only[go_sem,pJ]
     exact fin _ _ rfl
 rw[k3,aI] at fin
 simp(maxSteps:=9^6)-dsimp only[go_sem,MD]
 refine ⟨fun k7=>aH rfl (.done ?_),fun k7=>aH rfl (.done ?_)⟩
 · rw[k7,aQ] at fin
   simp(maxSteps:=9^6)-dsimp only[go_sem,K8]
   refine j9 (s:=s) hs ?_
   generalize hu:(cO s.es t.n).getD default=u at *
   have hul:u.vs.length<=9223372036854775807:=by
    rw[<-hu]
    cases hf:cO s.es t.n with
    |none=>exact aP _
    |some w=>exact (hs.ok.es w (y8 hf).1).lv
   simp(maxSteps:=9^6)-dsimp only[go_sem,aV]
   refine aH rfl (.done ?_)
   simp(maxSteps:=9^6)-dsimp only[go_sem,K3]
   refine aTF hul ?_
   simp(maxSteps:=9^6)-dsimp only[go_sem,bO]
   refine aH rfl (.done ?_)
   cases h4:u.vs.any fun x=>x==v.n <;>
   · rw[h4] at fin
     simp(maxSteps:=9^6)-dsimp only[go_sem,pJ]
     exact fin _ _ rfl
 rw[k7] at fin
 simp(maxSteps:=9^6)-dsimp only[go_sem,pJ]
 exact fin _ _ rfl
end Go.Proofs.YtblfcdllimkbhaaGreat
