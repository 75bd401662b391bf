/- Lemmas and walks for the proof. -/
import Derived.Test.YtgogpogophflhaaGreatDoorDd
import Derived.Test.YtgogpogophflhaaGreatDoorProg
import Derived.ChangeStays
import Derived.Deep.Slices
import Derived.JoinedCond
set_option maxRecDepth 100000
set_option maxHeartbeats 8000000
namespace Go.Proofs.YtgogpogophflhaaGreatDoor
open Go.W
theorem zR {α β:Type} {R S:α->β->Prop} {l:List α} {m:List β} (h:All2 R l m) (hi:∀ x ∈ l,∀ y,R x y->S x y):All2 S l m:=⟨h.1,fun i x y hx hy=>hi x (b6 hx) y (h.2 i x y hx hy)⟩
def ind:C->Bool
 | .fz _ | .fp _ _ | .fn _ _ | .fm _ _=>false
 | _=>true
theorem PF {γ:List Gb} {ro ro2:RO} {c:C} {v:Value} (hc:ind c=true) (h:c.rel γ ro v):c.rel γ ro2 v:=by
 cases c<;>first | exact h | cases hc
theorem AQ {γ:List Gb} {ro ro2:RO} {cs:List C} {vs:List Value} (hc:cs.all ind=true) (h:All2 (C.rel γ ro) cs vs):All2 (C.rel γ ro2) cs vs:=
 zR h fun x hx y hr=>PF (List.all_eq_true.1 hc x hx) hr
theorem EL {l:List St} {i:Nat} {s:St} (h:l[i]? = some s) (j:Nat) (hj:j < 2):(l.map aV).flatten[i * 2 + j]? = (aV s)[j]?:=by
 rw [f6 (sz:=2) (fun x hx=>by obtain ⟨y,_,rfl⟩:=List.mem_map.1 hx; rfl) (by rw [List.length_map]; exact (aU.1 h).1) hj,List.getElem?_map,h]; rfl
theorem xA {l:List En} {i:Nat} {e:En} (h:l[i]? = some e) (j:Nat) (hj:j < 3):(l.map bC).flatten[i * 3 + j]? = (bC e)[j]?:=by
 rw [f6 (sz:=3) (fun x hx=>by obtain ⟨y,_,rfl⟩:=List.mem_map.1 hx; rfl) (by rw [List.length_map]; exact (aU.1 h).1) hj,List.getElem?_map,h]; rfl
theorem D8 {ns:List ByteArray} {ro:RO} {L:List (Nat × Nat)} (hL:∀ a ∈ L,iX ns ro a):∀ (ss:List St) (vs:List Value),All2 (C.fv ro) (ss.map aV).flatten vs->(∀ (i:Nat) (s:St) (u:Value),ss[i]? = some s->vs[i * 2 + 1]? = some u->DnF ns ro L s u s.fs.length)->
 All2 (C.fv (mE L ro)) ((ss.map (mV ns)).map aV).flatten vs
 | [],vs,h,_=>by
  have h:All2 (C.fv ro) [] vs:=h
  obtain rfl:=h.nil_inv
  exact .nil
 | s :: ss,vs,h,hc=>by
  have h:All2 (C.fv ro) (.vl (.string s.nm) :: .fz (s.fs.map bU) :: (ss.map aV).flatten) vs:=h
  obtain ⟨v0,vs',rfl,a0,h⟩:=h.cons_inv
  obtain ⟨v1,vs',rfl,a1,h⟩:=h.cons_inv
  have a1:FzR ro (s.fs.map bU) v1:=a1
  have hd:=hc 0 s v1 rfl rfl
  refine All2.cons a0 (All2.cons ?_ (D8 hL ss vs' h fun i s' u h1 h2=>hc (i + 1) s' u (by simpa using h1) (by rw [show (i + 1) * 2 + 1=i * 2 + 1 + 1 + 1 by omega]; simpa using h2)))
  show FzR (mE L ro) ((s.fs.map (KT ns)).map bU) v1
  exact VM hL a1 fun i f b off cap h1 h2=>hd i f b off cap (aU.1 h1).1 h1 h2
theorem OS {ns:List ByteArray} {ro:RO} {L:List (Nat × Nat)} (hL:∀ a ∈ L,iX ns ro a) {es:List En} {vs:List Value} (h:All2 (C.fv ro) (es.map bC).flatten vs):All2 (C.fv (mE L ro)) (es.map bC).flatten vs:=by
 refine zR h fun x hx y hr=>?_
 obtain ⟨r,hr1,hr2⟩:=List.mem_flatten.1 hx
 obtain ⟨e,_,rfl⟩:=List.mem_map.1 hr1
 simp only [bC,List.mem_cons,List.not_mem_nil,or_false] at hr2
 rcases hr2 with rfl | rfl | rfl
 · exact hr
 · have hr:FzR ro (e.ns.map cQ) y:=hr
   refine DW hL hr (fun x hx=>by obtain ⟨z,_,rfl⟩:=List.mem_map.1 hx; rfl) fun x hx c hc=>?_
   obtain ⟨z,_,rfl⟩:=List.mem_map.1 hx
   exact ⟨_,List.mem_singleton.1 hc⟩
 · have hr:FzR ro (e.vs.map iQ) y:=hr
   refine DW hL hr (fun x hx=>by obtain ⟨z,_,rfl⟩:=List.mem_map.1 hx; rfl) fun x hx c hc=>?_
   obtain ⟨z,_,rfl⟩:=List.mem_map.1 hx
   exact ⟨_,List.mem_singleton.1 hc⟩
theorem pC {X:Ctx} {E:Es} {ro:RO} {w:World} (h:Rel X E ro w) {n:Nat} {g:Gb} {xs:List (List C)} {T sz:Nat} (hn:E[n]? = some (g,.row xs T sz)) {k:Nat} {c:C} (hk:xs.flatten[k]? = some c) :
 ∃ b u,g.ob=some b/\b < w.heap.size/\(∀ v off,ro b off ≠ some v)/\g.vs[k]? = some u/\w.cell? ⟨b,k,none⟩=some u/\c.fv ro u:=by
 have hon:=h.own n g _ hn
 obtain ⟨h1,h2,h3,h4,hown,hrel,h7⟩:=hon
 obtain ⟨u,hu,hc⟩:=hrel.get hk
 have hxne:xs.length ≠ 0:=fun e=>by
  rw [List.eq_nil_of_length_eq_zero e] at hk; simp at hk
 cases hb:g.ob with
 | none=>
  exfalso
  rw [hb] at hown
  rcases hown.2 with ⟨_,h0⟩ | ⟨b,cap0,cur,hv,_⟩
  · exact hxne h0
  · simp [aW] at hv
 | some b=>
  refine ⟨b,u,rfl,(h.own n g _ hn).lt rfl hb,fun v off hv=>?_,hu,?_,hc⟩
  · have:=h.apart b off v hv n g _ hn hb
    simp [B.live] at this
  · rw [hb] at hown
    have:=World.ownsRow.cells (h:=hown) (g:=b) rfl k u hu
    rwa [dF,Nat.zero_add] at this
abbrev X6 (ver:Int) (bad:Bool) (at_:Int) (nE nS:Nat):List C:=[.pt 1 0,.vl (.bool bad),.vl (.int .i64 at_),.vl (.int .i64 ver),.sl 3 nE,.sl 4 nS]
section
variable {w0 w:World} {ro0 ro:RO} {g0 g1 g2 g3 g4:Gb} {b1:B} {es:List En} {ss:List St} {ver at_:Int} {bad:Bool} {T0 T2 T3 T4:TypeId} {c0:List C}
abbrev AP (g0 g1 g2 g3 g4:Gb) (b1:B) (c0:List C) (ver:Int) (bad:Bool) (at_:Int) (es:List En) (ss:List St) (T0 T2 T3 T4:TypeId):Es:=
 [(g0,.cells c0 T0),(g1,b1),(g2,.cells (X6 ver bad at_ es.length ss.length) T2),(g3,.row (es.map bC) T3 3),(g4,.row (ss.map aV) T4 2)]
theorem WC (h:Rel ⟨w0,[],ro0,[]⟩ (AP g0 g1 g2 g3 g4 b1 c0 ver bad at_ es ss T0 T2 T3 T4) ro w) (h0:∀ b off v,ro0 b off=some v->off=0/\b < w0.heap.size) (hw:∀ s ∈ ss,∀ f ∈ s.fs,∃ d t0,yJ d t0 f.ty):Rs (es.map En.nm) ro w es ss g3.ob g4.ob where
 rd:=fun b off v hv=>⟨h.cell_lt hv,h.rd b off v hv⟩
 fr:=fun b off v hv ho=>by
  rcases h.rob b off v hv with q | ⟨_,q⟩
  · exact absurd (h0 b off v q).1 ho
  · exact q
 e:=fun j e he=>by
  obtain ⟨b,u0,q1,q2,q3,q4,q5,q6⟩:=pC h (n:=3) rfl (xA he 0 (by decide))
  obtain ⟨b',u1,r1,r2,r3,r4,r5,r6⟩:=pC h (n:=3) rfl (xA he 1 (by decide))
  obtain ⟨b'',u2,s1,s2,s3,s4,s5,s6⟩:=pC h (n:=3) rfl (xA he 2 (by decide))
  rw [q1] at r1 s1
  cases r1
  cases s1
  have q6:u0=.string e.nm:=q6
  subst q6
  have r6:FzR ro (e.ns.map cQ) u1:=r6
  have s6:FzR ro (e.vs.map iQ) u2:=s6
  exact ⟨b,u1,u2,q1,q2,q3,q5,r5,s5,FzR.slice r6,FzR.slice s6⟩
 s:=fun i s hs=>by
  obtain ⟨b,u,q1,q2,q3,q4,q5,q6⟩:=pC h (n:=4) rfl (EL hs 1 (by decide))
  exact ⟨b,u,q1,q2,q3,q5,q6⟩
 w:=hw
 n:=rfl
theorem JZ (h:Rel ⟨w0,[],ro0,[]⟩ (AP g0 g1 g2 g3 g4 b1 c0 ver bad at_ es ss T0 T2 T3 T4) ro w) :
 ∃ bp,g2.ob=some bp/\w.cell? ⟨bp,3,none⟩=some (.int .i64 ver)/\w.cell? ⟨bp,4,none⟩=some (.slice (aW g3.ob 0) es.length g3.cap)/\w.cell? ⟨bp,5,none⟩=some (.slice (aW g4.ob 0) ss.length g4.cap):=by
 obtain ⟨h1,bp,h2,h3,h4⟩:=h.own 2 g2 _ rfl
 have l3:=(h.own 3 g3 _ rfl).2.1
 have l4:=(h.own 4 g4 _ rfl).2.1
 rw [List.length_map] at l3 l4
 obtain ⟨u3,a3,r3⟩:=h4.get (i:=3) rfl
 obtain ⟨u4,a4,r4⟩:=h4.get (i:=4) rfl
 obtain ⟨u5,a5,r5⟩:=h4.get (i:=5) rfl
 have r3:u3=.int .i64 ver:=r3
 obtain ⟨k4,e4,_,_,_,f4⟩:=r4
 obtain ⟨k5,e5,_,_,_,f5⟩:=r5
 obtain rfl:g3=k4:=aZ e4
 obtain rfl:g4=k5:=aZ e5
 have cell:∀ (j:Nat) (u:Value),g2.vs[j]? = some u->w.cell? ⟨bp,j,none⟩=some u:=fun j u hu=>by
  unfold World.cell?
  rw [h3]
  simpa using hu
 refine ⟨bp,h2,cell 3 _ (by rw [a3,r3]),cell 4 _ (by rw [a4,f4 l3.symm]),cell 5 _ (by rw [a5,f5 l4.symm])⟩
theorem Z8 {L:List (Nat × Nat)} {w':World} (h:Rel ⟨w0,[],ro0,[]⟩ (AP g0 g1 g2 g3 g4 b1 c0 ver bad at_ es ss T0 T2 T3 T4) ro w) (h0:∀ b off v,ro0 b off=some v->off=0/\b < w0.heap.size) (hc0:c0.all ind=true)
 (hL:∀ a ∈ L,iX (es.map En.nm) ro a) (hC:Cu w L w') (hD:DnS (es.map En.nm) ro w L ss g4.ob ss.length) :
 Rel ⟨w0,[],ro0,[]⟩ (AP g0 g1 g2 g3 g4 .dead c0 ver bad at_ es (ss.map (mV (es.map En.nm))) T0 T2 T3 T4) (mE L ro) w':=by
 have hfresh:∀ a ∈ L,w0.heap.size<=a.1:=fun a ha=>by
  obtain ⟨_,⟨m,_,h2⟩,_⟩:=hL a ha
  rcases h.rob _ _ _ h2 with q | ⟨q | q,_⟩
  · have:=(h0 _ _ _ q).1; omega
  · exact q
  · cases q
 have hro:∀ b off v,mE L ro b off=some v->∃ v',ro b off=some v':=fun b off v hv=>by
  by_cases hin:(b,off) ∈ L
  · exact ⟨_,(hL _ hin).1⟩
  · rw [dI hin] at hv; exact ⟨v,hv⟩
 have hblk:∀ (n:Nat) (g:Gb) (blk:B) (b:Nat),(AP g0 g1 g2 g3 g4 b1 c0 ver bad at_ es ss T0 T2 T3 T4)[n]? = some (g,blk)->g.ob=some b->blk.live=true->w'.heap[b]? = w.heap[b]?:=fun n g blk b hn hb hl=>by
  refine hC.keep b ((h.own n g blk hn).lt hl hb) fun off hin=>?_
  have:=h.apart b off _ (hL _ hin).1 n g blk hn hb
  rw [hl] at this; cases this
 have hlen:(ss.map (mV (es.map En.nm))).length=ss.length:=by rw [List.length_map]
 have old:∀ (n:Nat) (g:Gb) (blk:B),(AP g0 g1 g2 g3 g4 .dead c0 ver bad at_ es (ss.map (mV (es.map En.nm))) T0 T2 T3 T4)[n]? = some (g,blk)->blk.live=true->∃ blk0,(AP g0 g1 g2 g3 g4 b1 c0 ver bad at_ es ss T0 T2 T3 T4)[n]? = some (g,blk0)/\blk0.live=true:=fun n g blk hn hl=>by
  match n,hn with
  | 0,hn=>cases hn; exact ⟨_,rfl,rfl⟩
  | 1,hn=>cases hn; cases hl
  | 2,hn=>cases hn; exact ⟨_,rfl,rfl⟩
  | 3,hn=>cases hn; exact ⟨_,rfl,rfl⟩
  | 4,hn=>cases hn; exact ⟨_,rfl,rfl⟩
  | n + 5,hn=>cases hn
 refine ⟨fun n g blk hn=>?_,fun n m gn gm bn bm b hn hm en em ln lm=>?_,fun b off v hv n g blk hn hb=>?_,fun b off v hv=>?_,fun b off v hv=>?_,fun b off v hv=>?_,fun n b g blk hn hb hl=>?_,fun n g hn=>by simp at hn,Nat.le_trans h.sz hC.sz,fun b hb hp=>?_,hC.os.trans h.os,hC.tape.trans h.tape,hC.output.trans h.output⟩
 · match n,hn with
   | 0,hn=>
    cases hn
    obtain ⟨k1,b,k2,k3,k4⟩:=h.own 0 g0 _ rfl
    exact ⟨k1,b,k2,by rw [hblk 0 g0 _ b rfl k2 rfl]; exact k3,AQ hc0 k4⟩
   | 1,hn=>cases hn; trivial
   | 2,hn=>
    cases hn
    obtain ⟨k1,b,k2,k3,k4⟩:=h.own 2 g2 _ rfl
    refine ⟨k1,b,k2,by rw [hblk 2 g2 _ b rfl k2 rfl]; exact k3,?_⟩
    rw [hlen]
    exact AQ rfl k4
   | 3,hn=>
    cases hn
    obtain ⟨k1,k2,k3,k4,k5,k6,k7⟩:=h.own 3 g3 _ rfl
    refine ⟨k1,k2,k3,k4,?_,OS hL k6,k7⟩
    have hs:=B.On.same (w':=w') (h.own 3 g3 _ rfl) (.refl _) (.refl _) fun b hb=>hblk 3 g3 _ b rfl hb rfl
    exact hs.2.2.2.2.1
   | 4,hn=>
    cases hn
    have hs:=B.On.same (w':=w') (h.own 4 g4 _ rfl) (.refl _) (.refl _) fun b hb=>hblk 4 g4 _ b rfl hb rfl
    obtain ⟨k1,k2,k3,k4,k5,k6,k7⟩:=hs
    rw [List.length_map] at k2 k5
    refine ⟨k1,by rw [List.length_map,hlen]; exact k2,fun x hx=>?_,fun c hc=>?_,by rw [List.length_map,hlen]; exact k5,?_,k7⟩
    · obtain ⟨y,_,rfl⟩:=List.mem_map.1 hx; rfl
    · obtain ⟨r,hr1,hr2⟩:=List.mem_flatten.1 hc
      obtain ⟨y,_,rfl⟩:=List.mem_map.1 hr1
      simp only [aV,List.mem_cons,List.not_mem_nil,or_false] at hr2
      rcases hr2 with rfl | rfl<;>rfl
    · refine D8 hL ss _ k6 fun i s u h1 h2=>?_
      obtain ⟨b,u',q1,q2,q3,q4,q5,q6⟩:=pC h (n:=4) rfl (EL h1 1 (by decide))
      rw [q4] at h2
      obtain rfl:=aZ h2
      exact hD i s b u' (aU.1 h1).1 h1 q1 q5
   | n + 5,hn=>cases hn
 · obtain ⟨x,hx,lx⟩:=old n gn bn hn ln
   obtain ⟨y,hy,ly⟩:=old m gm bm hm lm
   exact h.inj n m gn gm x y b hx hy en em lx ly
 · by_cases hl:blk.live=true
   · obtain ⟨x,hx,lx⟩:=old n g blk hn hl
     obtain ⟨v',hv'⟩:=hro b off v hv
     have:=h.apart b off v' hv' n g x hx hb
     rw [lx] at this; cases this
   · simpa using hl
 · obtain ⟨v',hv'⟩:=hro b off v hv
   have hlt:=h.cell_lt hv'
   have hrd:=h.rd b off v' hv'
   refine ⟨?_,fun hst=>?_⟩
   · rw [hC.cell b off hlt]
     by_cases hin:(b,off) ∈ L
     · rw [GT hin] at hv; rw [if_pos hin]; exact hv
     · rw [dI hin] at hv; rw [if_neg hin]; exact (h.rd b off v hv).1
   · rw [hC.fz b off hlt]; exact hrd.2 hst
 · have hno:(b,off) ∉ L:=fun hin=>Nat.lt_irrefl _ (Nat.lt_of_lt_of_le (h0 b off v hv).2 (hfresh _ hin))
   rw [dI hno]
   exact h.ro0 b off v hv
 · by_cases hin:(b,off) ∈ L
   · refine .inr ⟨.inl (hfresh _ hin),?_⟩
     have:=(hL _ hin).2.2
     show ro.st b ≠ 0
     simp only at this
     omega
   · rw [dI hin] at hv
     exact h.rob b off v hv
 · obtain ⟨x,hx,lx⟩:=old n g blk hn hl
   exact h.par n b g x hx hb lx
 · rw [hC.keep b (Nat.lt_of_lt_of_le hb h.sz) fun off hin=>Nat.lt_irrefl _ (Nat.lt_of_lt_of_le hb (hfresh _ hin))]
   exact h.keep b hb hp
end
theorem tJ:cT 0:=⟨by decide,by decide⟩
theorem uU {c:Bool} {ts:List Tk} {z:Fs} (h:Tks ts) (hn:z.n < ts.length):cT (eL c ts z):=by
 unfold eL
 cases fN c ts z
 · exact tJ
 · exact (h.g _ (lV hn)).i
theorem lH {c:Bool} {ts:List Tk} {z:Fs} (h:Tks ts) (hn:z.n < ts.length):(bZ c ts z).size<=200:=by
 unfold bZ
 cases eV c ts z
 · exact Nat.zero_le _
 · have:=(h.g _ (lV hn)).len
   rw [aO,gB]
   exact this
def TyP (t:Ty):Prop:=∃ d t0,t=a6 d t0/\cT t0.k/\t0.k ≠ 5/\t0.e=[]/\t0.n.size<=200/\cT t0.s/\d.length<=4002/\∀ s ∈ d,cT s
structure FlP (f:Fl):Prop where
 n:cT f.num
 m:f.nm.size<=200
 t:TyP f.ty
structure StP (s:St):Prop where
 n:s.nm.size<=200
 l:s.fs.length<=4002
 f:∀ f ∈ s.fs,FlP f
structure EnP (e:En):Prop where
 n:e.nm.size<=200
 l:e.ns.length<=4002
 v:e.vs.length<=4002
 a:∀ n ∈ e.ns,n.size<=200
 b:∀ n ∈ e.vs,cT n
structure ScP (s:Sc):Prop where
 v:cT s.ver
 e:s.es.length<=4002
 l:s.ss.length<=4002
 a:∀ e ∈ s.es,EnP e
 b:∀ t ∈ s.ss,StP t
theorem ER {ts:List Tk} {z:Fs} (h:Tks ts) (hn:z.n < ts.length):∀ l:List Int,(∀ s ∈ l,cT s)->TyP (kF ts z l).1
 | [],_=>⟨[],_,rfl,⟨by show (_:Int)<=6; decide,by show (6:Int)<=_; decide⟩,by show (6:Int) ≠ 5; decide,rfl,lH h hn,tJ,by decide,fun s h=>by cases h⟩
 | s :: r,hl=>by
  rw [kF]
  cases aJ 1 (nW s) ts z
  · cases decide (s < 64) && aJ 1 (kI s) ts z
    · exact ER h hn r fun s hs=>hl s (List.mem_cons_of_mem _ hs)
    · exact ⟨[],_,rfl,⟨by show (_:Int)<=3; decide,by show (3:Int)<=_; decide⟩,by show (3:Int) ≠ 5; decide,rfl,Nat.zero_le _,hl s (List.mem_cons_self ..),by decide,fun s h=>by cases h⟩
  · exact ⟨[],_,rfl,⟨by show (_:Int)<=2; decide,by show (2:Int)<=_; decide⟩,by show (2:Int) ≠ 5; decide,rfl,Nat.zero_le _,hl s (List.mem_cons_self ..),by decide,fun s h=>by cases h⟩
theorem w8 {ts:List Tk} {z:Fs} (h:Tks ts) (hn:z.n < ts.length):cT (dS ts z):=uU h (cK hn).2
theorem O0 {ts:List Tk} {z:Fs} (h:Tks ts) (hn:z.n < ts.length):TyP (eR ts z).1:=by
 unfold eR
 cases aJ 1 gR ts z
 · cases aJ 1 wText ts z
   · exact ER h hn szs (by unfold szs cT; decide)
   · exact ⟨[],_,rfl,⟨by show (_:Int)<=4; decide,by show (4:Int)<=_; decide⟩,by show (4:Int) ≠ 5; decide,rfl,Nat.zero_le _,w8 h (d7 hn).2,by decide,fun s h=>by cases h⟩
 · exact ⟨[],_,rfl,⟨by show (_:Int)<=1; decide,by show (1:Int)<=_; decide⟩,by show (1:Int) ≠ 5; decide,rfl,Nat.zero_le _,⟨by show (_:Int)<=0; decide,by show (0:Int)<=_; decide⟩,by decide,fun s h=>by cases h⟩
theorem K7 {ts:List Tk} (h:Tks ts):∀ (f:Nat) (d:List Int) (z:Fs),z.n < ts.length->(∀ s ∈ d,cT s)->(∀ s ∈ (gI ts f d z).1,cT s)/\(gI ts f d z).1.length<=d.length + f
 | 0,d,z,_,hd=>⟨hd,Nat.le_refl _⟩
 | f + 1,d,z,hn,hd=>by
  rw [lB]
  cases aJ 1 b8 ts z
  · exact ⟨hd,by show d.length<=_; omega⟩
  · have h1:=d7 (k:=1) (w:=b8) hn
    have h2:=lP h1.2
    have h3:=tO h2.2
    have ih:=K7 h f (d ++ [dS ts (aQ 1 b8 ts z)]) _ h3.2 fun s hs=>by
     rcases List.mem_append.1 hs with hs | hs
     · exact hd s hs
     · rw [List.mem_singleton.1 hs]; exact w8 h h1.2
    rw [aO]
    refine ⟨ih.1,?_⟩
    have:=ih.2
    rw [List.length_append,List.length_singleton] at this
    omega
theorem CO {ts:List Tk} {z:Fs}:(eR ts z).1.k ≠ 5/\(eR ts z).1.e=[]:=by
 have hS:∀ l:List Int,(kF ts z l).1.k ≠ 5/\(kF ts z l).1.e=[]:=fun l=>by
  induction l with
  | nil=>exact ⟨by show (6:Int) ≠ 5; decide,rfl⟩
  | cons s r ih=>
   rw [kF]
   cases aJ 1 (nW s) ts z
   · cases decide (s < 64) && aJ 1 (kI s) ts z
     · exact ih
     · exact ⟨by show (3:Int) ≠ 5; decide,rfl⟩
   · exact ⟨by show (2:Int) ≠ 5; decide,rfl⟩
 unfold eR
 cases aJ 1 gR ts z
 · cases aJ 1 wText ts z
   · exact hS szs
   · exact ⟨by show (4:Int) ≠ 5; decide,rfl⟩
 · exact ⟨by show (1:Int) ≠ 5; decide,rfl⟩
theorem TyP.leaf {t:Ty} (h:TyP t) (h5:t.k ≠ 5):cT t.k/\t.n.size<=200/\cT t.s:=by
 obtain ⟨d,t0,rfl,h1,h2,h3,h4,h6,_⟩:=h
 cases d with
 | nil=>exact ⟨h1,h4,h6⟩
 | cons s d=>exact absurd rfl h5
theorem rE {ts:List Tk} {z:Fs} (h:Tks ts) (hn:z.n < ts.length):TyP (gV ts z).1:=by
 have h1:=zE (ts.length + 1) [] z hn
 have h2:=K7 h (ts.length + 1) [] z hn fun s hs=>by cases hs
 have h3:=CO (ts:=ts) (z:=(gI ts (ts.length + 1) [] z).2)
 have h4:=(O0 h h1.2).leaf h3.1
 have h5:=h.e.le
 have h6:=h2.2
 simp only [List.length_nil] at h6
 exact ⟨_,_,rfl,h4.1,h3.1,h3.2,h4.2.1,h4.2.2,by omega,h2.1⟩
theorem WZ {ts:List Tk} {z:Fs} (h:Tks ts) (hn:z.n < ts.length):FlP (p8 ts z).1:=by
 have h1:=kN (c:=false) hn
 have h2:=eH (c:=false) h1.2
 have h3:=cK (w:=[58]) h2.2
 exact ⟨uU h hn,lH h h1.2,rE h h3.2⟩
theorem MT {ts:List Tk} (h:Tks ts):∀ (f:Nat) (l:List Fl) (z:Fs),z.n < ts.length->(∀ x ∈ l,FlP x)->(∀ x ∈ (oJ ts f l z).1,FlP x)/\(oJ ts f l z).1.length<=l.length + f
 | 0,l,z,_,hl=>⟨hl,Nat.le_refl _⟩
 | f + 1,l,z,hn,hl=>by
  rw [sE]
  cases z.bad
  · cases aJ 4 [125] ts z
    · cases (aN ts z.n).k != 2
      · have ih:=MT h f (l ++ [(p8 ts z).1]) _ (GP hn).2 fun x hx=>by
         rcases List.mem_append.1 hx with hx | hx
         · exact hl x hx
         · rw [List.mem_singleton.1 hx]; exact WZ h hn
        rw [aH,aH,aH]
        refine ⟨ih.1,?_⟩
        have:=ih.2
        rw [List.length_append,List.length_singleton] at this
        omega
      · exact ⟨hl,by simp only [aO,aH]; omega⟩
    · exact ⟨hl,by simp only [aO,aH]; omega⟩
  · exact ⟨hl,by simp only [aO]; omega⟩
theorem XE {ts:List Tk} {z:Fs} (h:Tks ts) (hn:z.n < ts.length):StP (iO ts z).1:=by
 have h1:=eH (c:=true) hn
 have h2:=cK (w:=[123]) h1.2
 have h3:=MT h (ts.length + 1) [] _ h2.2 fun x hx=>by cases hx
 have h5:=h.e.le
 have h6:=h3.2
 simp only [List.length_nil] at h6
 refine ⟨lH h hn,?_,h3.1⟩
 unfold iO
 simp only
 omega
theorem MN {ts:List Tk} (h:Tks ts):∀ (f:Nat) (a:List ByteArray) (b:List Int) (z:Fs),z.n < ts.length->(∀ x ∈ a,x.size<=200)->(∀ x ∈ b,cT x)->
 ((∀ x ∈ (l8 ts f a b z).1.1,x.size<=200)/\∀ x ∈ (l8 ts f a b z).1.2,cT x)/\(l8 ts f a b z).1.1.length<=a.length + f/\(l8 ts f a b z).1.2.length<=b.length + f
 | 0,a,b,z,_,ha,hb=>⟨⟨ha,hb⟩,Nat.le_refl _,Nat.le_refl _⟩
 | f + 1,a,b,z,hn,ha,hb=>by
  have h1:=eH (c:=false) hn
  have h2:=cK (w:=[61]) h1.2
  have ha':∀ x ∈ a ++ [bZ false ts z],x.size<=200:=fun x hx=>by
   rcases List.mem_append.1 hx with hx | hx
   · exact ha x hx
   · rw [List.mem_singleton.1 hx]; exact lH h hn
  have hb':∀ x ∈ b ++ [eL false ts (bN [61] ts (bM false ts z))],cT x:=fun x hx=>by
   rcases List.mem_append.1 hx with hx | hx
   · exact hb x hx
   · rw [List.mem_singleton.1 hx]; exact uU h h2.2
  rw [sF]
  cases z.bad
  · cases aJ 4 [44] ts (oL ts z)
    · refine ⟨⟨ha',hb'⟩,?_,?_⟩<;>(simp only [aH,List.length_append,List.length_singleton]; omega)
    · have ih:=MN h f _ _ _ (d7 (k:=4) (w:=[44]) (MY hn).2).2 ha' hb'
      rw [aH,aO]
      refine ⟨ih.1,?_,?_⟩
      · have:=ih.2.1; rw [List.length_append,List.length_singleton] at this; omega
      · have:=ih.2.2; rw [List.length_append,List.length_singleton] at this; omega
  · exact ⟨⟨ha,hb⟩,by simp only [aO]; omega,by simp only [aO]; omega⟩
theorem XF {ts:List Tk} {z:Fs} (h:Tks ts) (hn:z.n < ts.length):EnP (g9 ts z).1:=by
 have h1:=eH (c:=true) hn
 have h2:=cK (w:=[123]) h1.2
 have h3:=MN h (ts.length + 1) [] [] _ h2.2 (fun x hx=>by cases hx) fun x hx=>by cases hx
 have h5:=h.e.le
 have h6:=h3.2
 simp only [List.length_nil] at h6
 exact ⟨lH h hn,by unfold g9; simp only; omega,by unfold g9; simp only; omega,h3.1.1,h3.1.2⟩
theorem TyP.wrp {t:Ty} (h:TyP t):∃ d t0,yJ d t0 t:=by
 obtain ⟨d,t0,h1,_,h2,h3,_⟩:=h
 exact ⟨d,t0,h1,h2,h3⟩
theorem TyP.rs {t:Ty} (h:TyP t) (ns:List ByteArray):TyP (nA ns t):=by
 obtain ⟨d,t0,rfl,h1,h2,h3,h4,h5,h6,h7⟩:=h
 rw [sD,AV h2]
 cases t0.k == 6 && wC ns t0.n
 · exact ⟨d,t0,rfl,h1,h2,h3,h4,h5,h6,h7⟩
 · exact ⟨d,_,rfl,⟨by show (_:Int)<=7; decide,by show (7:Int)<=_; decide⟩,by show (7:Int) ≠ 5; decide,h3,h4,h5,h6,h7⟩
theorem StP.rs {s:St} (h:StP s) (ns:List ByteArray):StP (mV ns s):=
 ⟨h.n,by show (s.fs.map _).length<=_; rw [List.length_map]; exact h.l,fun f hf=>by
  obtain ⟨g,hg,rfl⟩:=List.mem_map.1 hf
  have:=h.f g hg
  exact ⟨this.n,this.m,this.t.rs ns⟩⟩
theorem TyP.ok {t:Ty} (h:TyP t):TyOk t/\TySm t/\(bL t).1<=4002:=by
 obtain ⟨d,t0,rfl,h1,h2,h3,h4,h5,h6,h7⟩:=h
 have key:∀ d:List Int,(∀ s ∈ d,cT s)->TyOk (a6 d t0)/\TySm (a6 d t0)/\(bL (a6 d t0)).1<=d.length:=fun d=>by
  induction d with
  | nil=>
   intro _
   cases t0 with
   | mk k s n e=>
    have h3:e=[]:=h3
    subst h3
    have h2:k ≠ 5:=h2
    have h4:n.size<=200:=h4
    refine ⟨.mk h1 h5 (by omega) (by simp) (fun u hu=>by cases hu),.mk (by simp) (fun u hu=>by cases hu),?_⟩
    show (bL (.mk k s n [])).1<=0
    rw [bL,beq_eq_false_iff_ne.2 h2]; exact Nat.le_refl _
  | cons s d ih=>
   intro hd
   obtain ⟨i1,i2,i3⟩:=ih fun s hs=>hd s (List.mem_cons_of_mem _ hs)
   show TyOk (.mk 5 s (mk []) [a6 d t0])/\TySm (.mk 5 s (mk []) [a6 d t0])/\(bL (.mk 5 s (mk []) [a6 d t0])).1<=d.length + 1
   refine ⟨.mk ⟨by decide,by decide⟩ (hd s (List.mem_cons_self ..)) (by decide) (by simp) (fun u hu=>by rw [List.mem_singleton.1 hu]; exact i1),.mk (by simp) (fun u hu=>by rw [List.mem_singleton.1 hu]; exact i2),?_⟩
   rw [bL]
   show (bL (a6 d t0)).1 + 1<=d.length + 1
   omega
 have:=key d h7
 exact ⟨this.1,this.2.1,by omega⟩
theorem ScP.fit {s:Sc} (h:ScP s):s.fit where
 ok:=⟨h.v,by have:=h.e; omega,by have:=h.l; omega,fun e he=>by
  have q:=h.a e he
  exact ⟨by have:=q.n; omega,by have:=q.l; omega,by have:=q.v; omega,fun n hn=>by have:=q.a n hn; omega,q.b⟩,fun t ht=>by
  have q:=h.b t ht
  refine ⟨by have:=q.n; omega,by have:=q.l; omega,fun f hf=>?_⟩
  have r:=q.f f hf
  exact ⟨r.n,by have:=r.m; omega,r.t.ok.1⟩⟩
 lv:=fun t ht f hf=>by have:=((h.b t ht).f f hf).t.ok.2.2; omega
 sm:=fun t ht=>⟨by have:=(h.b t ht).l; omega,fun f hf=>((h.b t ht).f f hf).t.ok.2.1⟩
 en:=fun e he=>⟨by have:=(h.a e he).l; omega,by have:=(h.a e he).v; omega⟩
def P7:PC:=.seq (.reg [.e 2 (.bx 37 (.t 0)),.e 3 (.bx 37 (.t 1)),.q 4 (.mv (.k (.bool false)))]) (.seq (.seq (.reg [.q 6 (.fa 0 (.t 2)),.l 7 (.ld1 (.t 6)),.q 8 (.fa 0 (.t 3)),.l 9 (.ld1 (.t 8)),.q 10 (.bin .neq true (.t 7) (.t 9)),.v 11 10,⟨some 12,(some (11,false)),.q (.fa 1 (.t 2))⟩,⟨some 13,(some (11,false)),.l (.ld1 (.t 12))⟩,⟨some 14,(some (11,false)),.q (.fa 1 (.t 3))⟩,⟨some 15,(some (11,false)),.l (.ld1 (.t 14))⟩,⟨some 16,(some (11,false)),.q (.bin .neq true (.t 13) (.t 15))⟩,.a 17 (.pick (.t 11) (.k (.bool true)) (.t 16)),.v 18 17,⟨some 19,(some (18,false)),.q (.fa 2 (.t 2))⟩,⟨some 20,(some (18,false)),.l (.ld1 (.t 19))⟩,⟨some 21,(some (18,false)),.q (.fa 2 (.t 3))⟩,⟨some 22,(some (18,false)),.l (.ld1 (.t 21))⟩,⟨some 23,(some (18,false)),.q (.bin .neq true (.t 20) (.t 22))⟩,.a 24 (.pick (.t 18) (.k (.bool true)) (.t 23)),.v 25 24,⟨some 26,(some (25,false)),.q (.fa 3 (.t 2))⟩,⟨some 27,(some (25,false)),.l (.ld1 (.t 26))⟩,⟨some 28,(some (25,false)),.q (.lnL (.t 27))⟩,⟨some 29,(some (25,false)),.q (.fa 3 (.t 3))⟩,⟨some 30,(some (25,false)),.l (.ld1 (.t 29))⟩,⟨some 31,(some (25,false)),.q (.lnL (.t 30))⟩,⟨some 32,(some (25,false)),.q (.bin .neq true (.t 28) (.t 31))⟩,.a 33 (.pick (.t 25) (.k (.bool true)) (.t 32))]) (.cond (.t 33) (.seq (.reg [.q 4 (.mv (.k (.bool false)))]) .ret) .skip)) (.seq (.seq (.reg [.q 5 (.mv (.i 0))]) (.block 0 (.loop (.seq (.seq (.reg [.v 34 5,.q 35 (.fa 3 (.t 2)),.l 36 (.ld1 (.t 35)),.q 37 (.lnL (.t 36)),.q 38 (.bin .lss true (.t 34) (.t 37))]) (.cond (.t 38) .skip (.exit 0))) (.seq (.block 1 (.seq (.reg [.q 41 (.fa 3 (.t 2)),.l 42 (.ld1 (.t 41)),.v 43 5,.l 44 (.ia 4 (.t 42) (.t 43)),.l 45 (.ldn 4 (.t 44)),.q 46 (.fa 3 (.t 3)),.l 47 (.ld1 (.t 46)),.v 48 5,.l 49 (.ia 4 (.t 47) (.t 48)),.l 50 (.ldn 4 (.t 49)),.a 51 (.cq 19 [(.t 45),(.t 50)]),.q 52 (.not (.t 51))]) (.cond (.t 52) (.seq (.reg [.q 4 (.mv (.k (.bool false)))]) .ret) .skip))) (.reg [.v 39 5,.q 40 (.bin .add true (.t 39) (.i 1)),.v 5 40])))))) (.seq (.reg [.q 4 (.mv (.k (.bool true)))]) .ret)))
def TI:List RV:=[.mv (.t 4)]
theorem ZE:aT Tryz.prog true ⟨fun r k=>if r=6/\k=10 then .q else .own [],fun _=>false⟩ Tryz.f19=some (P7,TI):=by kernel_rfl
def TU:PC:=.seq (.reg [.v 6 0,.v 7 1,.v 8 2,.a 9 (.cl 49 [(.t 6),(.t 7),(.t 8)] [0])]) (.cond (.t 9) (.reg [.v 10 0,.q 11 (.nc (.t 10)),.q 12 (.fa 1 (.t 11)),.l 13 (.ld1 (.t 12)),.q 14 (.bin .add true (.t 13) (.i 1)),.q 15 (.nc (.t 10)),.q 16 (.fa 1 (.t 15)),.s (.st 1 (.t 16) (.t 14))]) (.reg [.v 17 0,.a 18 (.cl 93 [(.t 17)] [0])]))
def RE:List RV:=[]
theorem Y4:aT Tryz.prog true ⟨fun r k=>if r=0/\k=3 then .own [0] else if r=2/\k=1 then .own [0] else .own [],fun _=>false⟩ Tryz.f46=some (TU,RE):=by kernel_rfl
def JX:PC:=.seq (.reg [.e 4 (.al (.agg #[(.int .i64 0),(.string (mk [])),(.int .i64 0),(.int .i64 0)]) 74)]) (.seq (.seq (.reg [.v 5 0,.q 6 (.nc (.t 5)),.q 7 (.fa 2 (.t 6)),.l 8 (.ld1 (.t 7)),.q 9 (.bin .lss true (.t 8) (.i 0)),.v 10 9,⟨some 11,(some (10,true)),.q (.mv (.t 0))⟩,⟨some 12,(some (10,true)),.q (.nc (.t 11))⟩,⟨some 13,(some (10,true)),.q (.fa 0 (.t 12))⟩,⟨some 14,(some (10,true)),.l (.ld1 (.t 13))⟩,⟨some 15,(some (10,true)),.q (.mv (.t 0))⟩,⟨some 16,(some (10,true)),.q (.nc (.t 15))⟩,⟨some 17,(some (10,true)),.q (.fa 1 (.t 16))⟩,⟨some 18,(some (10,true)),.l (.ld1 (.t 17))⟩,⟨some 19,(some (10,true)),.l (.ia 4 (.t 14) (.t 18))⟩,⟨some 20,(some (10,true)),.q (.fa 0 (.t 19))⟩,⟨some 21,(some (10,true)),.l (.ld1 (.t 20))⟩,⟨some 22,(some (10,true)),.q (.mv (.t 1))⟩,⟨some 23,(some (10,true)),.q (.bin .eql true (.t 21) (.t 22))⟩,.a 24 (.pick (.t 10) (.t 23) (.k (.bool false)))]) (.cond (.t 24) (.seq (.reg [.v 25 0,.q 26 (.nc (.t 25)),.q 27 (.fa 1 (.t 26)),.l 28 (.ld1 (.t 27)),.q 29 (.bin .add true (.t 28) (.i 1)),.q 30 (.nc (.t 25)),.q 31 (.fa 1 (.t 30)),.s (.st 1 (.t 31) (.t 29))]) (.seq (.reg [.v 32 0,.q 33 (.nc (.t 32)),.q 34 (.fa 0 (.t 33)),.l 35 (.ld1 (.t 34)),.v 36 0,.q 37 (.nc (.t 36)),.q 38 (.fa 1 (.t 37)),.l 39 (.ld1 (.t 38)),.q 40 (.bin .sub true (.t 39) (.i 1)),.l 41 (.ia 4 (.t 35) (.t 40)),.l 42 (.ldn 4 (.t 41)),.s (.st 4 (.t 4) (.t 42))]) .ret)) .skip)) (.seq (.reg [.v 43 0,.a 44 (.cl 93 [(.t 43)] [0])]) (.seq (.reg [.q 45 (.bd [(.int .i64 0),(.string (mk [])),(.int .i64 0),(.int .i64 0)] []),.s (.st 4 (.t 4) (.t 45))]) .ret)))
def KU:List RV:=[.ld (.ldn 4 (.t 4))]
theorem ZX:aT Tryz.prog true ⟨fun r k=>if r=4/\k=1 then .own [0] else .own [],fun _=>false⟩ Tryz.f47=some (JX,KU):=by kernel_rfl
def RN:PC:=.seq (.reg [.e 2 (.al (.agg #[(.int .i64 0),(.string (mk [])),(.int .i64 0),(.int .i64 0)]) 74)]) (.seq (.reg [.v 3 0,.q 4 (.nc (.t 3)),.q 5 (.fa 0 (.t 4)),.l 6 (.ld1 (.t 5)),.v 7 0,.q 8 (.nc (.t 7)),.q 9 (.fa 1 (.t 8)),.l 10 (.ld1 (.t 9)),.l 11 (.ia 4 (.t 6) (.t 10)),.l 12 (.ldn 4 (.t 11)),.s (.st 4 (.t 2) (.t 12))]) .ret)
def UV:List RV:=[.ld (.ldn 4 (.t 2))]
theorem aCB:aT Tryz.prog true ⟨fun _ _=>.own [],fun _=>false⟩ Tryz.f48=some (RN,UV):=by kernel_rfl
def JF:PC:=.seq (.reg [.q 6 (.mv (.k (.bool false)))]) (.seq (.reg [.v 7 0,.q 8 (.nc (.t 7)),.q 9 (.fa 2 (.t 8)),.l 10 (.ld1 (.t 9)),.q 11 (.bin .lss true (.t 10) (.i 0)),.v 12 11,⟨some 13,(some (12,true)),.q (.mv (.t 0))⟩,⟨some 14,(some (12,true)),.q (.nc (.t 13))⟩,⟨some 15,(some (12,true)),.q (.fa 0 (.t 14))⟩,⟨some 16,(some (12,true)),.l (.ld1 (.t 15))⟩,⟨some 17,(some (12,true)),.q (.mv (.t 0))⟩,⟨some 18,(some (12,true)),.q (.nc (.t 17))⟩,⟨some 19,(some (12,true)),.q (.fa 1 (.t 18))⟩,⟨some 20,(some (12,true)),.l (.ld1 (.t 19))⟩,⟨some 21,(some (12,true)),.l (.ia 4 (.t 16) (.t 20))⟩,⟨some 22,(some (12,true)),.q (.fa 0 (.t 21))⟩,⟨some 23,(some (12,true)),.l (.ld1 (.t 22))⟩,⟨some 24,(some (12,true)),.q (.mv (.t 1))⟩,⟨some 25,(some (12,true)),.q (.bin .eql true (.t 23) (.t 24))⟩,.a 26 (.pick (.t 12) (.t 25) (.k (.bool false))),.v 27 26,⟨some 28,(some (27,true)),.q (.mv (.t 0))⟩,⟨some 29,(some (27,true)),.q (.nc (.t 28))⟩,⟨some 30,(some (27,true)),.q (.fa 0 (.t 29))⟩,⟨some 31,(some (27,true)),.l (.ld1 (.t 30))⟩,⟨some 32,(some (27,true)),.q (.mv (.t 0))⟩,⟨some 33,(some (27,true)),.q (.nc (.t 32))⟩,⟨some 34,(some (27,true)),.q (.fa 1 (.t 33))⟩,⟨some 35,(some (27,true)),.l (.ld1 (.t 34))⟩,⟨some 36,(some (27,true)),.l (.ia 4 (.t 31) (.t 35))⟩,⟨some 37,(some (27,true)),.q (.fa 1 (.t 36))⟩,⟨some 38,(some (27,true)),.l (.ld1 (.t 37))⟩,⟨some 39,(some (27,true)),.q (.mv (.t 2))⟩,⟨some 40,(some (27,true)),.q (.bin .eql true (.t 38) (.t 39))⟩,.a 41 (.pick (.t 27) (.t 40) (.k (.bool false))),.v 6 41]) .ret)
def KJ:List RV:=[.mv (.t 6)]
theorem ZO:aT Tryz.prog true ⟨fun _ _=>.own [],fun _=>false⟩ Tryz.f49=some (JF,KJ):=by kernel_rfl
def wW:PC:=.seq (.gh (.reg [.v 125 3,.v 126 0,.a 127 (.cl 56 [(.t 126)] [0]),.e 128 (.bsl 37 4 [(.t 127)]),.q 129 (.bd [(.int .i64 0),(.int .i64 0),(.string (mk [])),(.slice none 0 0)] [(0,1,(.i 5)),(1,1,(.t 125)),(3,1,(.t 128))]),.s (.st 4 (.t 2) (.t 129))])) .ret
@[go_sem ↓] theorem YZ:bT wW:=bW _
def xB:PC:=.seq (.gh (.reg [.v 123 0,.a 124 (.cl 46 [(.t 123),(.i 1),(.k (.string (mk [111,102])))] [0])])) (wW)
@[go_sem ↓] theorem X5:bT xB:=bW _
def wJ:PC:=.seq (.gh (.reg [.v 130 0,.a 131 (.cl 94 [(.t 130)] [0]),.q 132 (.bd [(.int .i64 0),(.int .i64 0),(.string (mk [])),(.slice none 0 0)] [(0,1,(.i 6)),(2,1,(.t 131))]),.s (.st 4 (.t 2) (.t 132))])) .ret
@[go_sem ↓] theorem XY:bT wJ:=bW _
def AG:PC:=.seq (.seq (.gh (.reg [.v 17 0,.a 18 (.cl 48 [(.t 17)] [0]),.q 19 (.fld1 1 (.t 18))])) (.block 0 (.seq (.reg [.q 21 (.bin .eql true (.t 19) (.k (.string (mk [98,111,111,108])))),.v 20 21]) (.cond (.t 20) (.seq (.reg [.v 22 0,.q 23 (.nc (.t 22)),.q 24 (.fa 1 (.t 23)),.l 25 (.ld1 (.t 24)),.q 26 (.bin .add true (.t 25) (.i 1)),.q 27 (.nc (.t 22)),.q 28 (.fa 1 (.t 27)),.s (.st 1 (.t 28) (.t 26))]) (.seq (.reg [.q 29 (.bd [(.int .i64 0),(.int .i64 0),(.string (mk [])),(.slice none 0 0)] [(0,1,(.i 1))]),.s (.st 4 (.t 2) (.t 29))]) .ret)) (.seq (.reg [.q 31 (.bin .eql true (.t 19) (.k (.string (mk [105,110,116,56])))),.v 30 31]) (.cond (.t 30) (.seq (.reg [.v 32 0,.q 33 (.nc (.t 32)),.q 34 (.fa 1 (.t 33)),.l 35 (.ld1 (.t 34)),.q 36 (.bin .add true (.t 35) (.i 1)),.q 37 (.nc (.t 32)),.q 38 (.fa 1 (.t 37)),.s (.st 1 (.t 38) (.t 36))]) (.seq (.reg [.q 39 (.bd [(.int .i64 0),(.int .i64 0),(.string (mk [])),(.slice none 0 0)] [(0,1,(.i 2)),(1,1,(.i 8))]),.s (.st 4 (.t 2) (.t 39))]) .ret)) (.seq (.reg [.q 41 (.bin .eql true (.t 19) (.k (.string (mk [105,110,116,49,54])))),.v 40 41]) (.cond (.t 40) (.seq (.reg [.v 42 0,.q 43 (.nc (.t 42)),.q 44 (.fa 1 (.t 43)),.l 45 (.ld1 (.t 44)),.q 46 (.bin .add true (.t 45) (.i 1)),.q 47 (.nc (.t 42)),.q 48 (.fa 1 (.t 47)),.s (.st 1 (.t 48) (.t 46))]) (.seq (.reg [.q 49 (.bd [(.int .i64 0),(.int .i64 0),(.string (mk [])),(.slice none 0 0)] [(0,1,(.i 2)),(1,1,(.i 16))]),.s (.st 4 (.t 2) (.t 49))]) .ret)) (.seq (.reg [.q 51 (.bin .eql true (.t 19) (.k (.string (mk [105,110,116,51,50])))),.v 50 51]) (.cond (.t 50) (.seq (.reg [.v 52 0,.q 53 (.nc (.t 52)),.q 54 (.fa 1 (.t 53)),.l 55 (.ld1 (.t 54)),.q 56 (.bin .add true (.t 55) (.i 1)),.q 57 (.nc (.t 52)),.q 58 (.fa 1 (.t 57)),.s (.st 1 (.t 58) (.t 56))]) (.seq (.reg [.q 59 (.bd [(.int .i64 0),(.int .i64 0),(.string (mk [])),(.slice none 0 0)] [(0,1,(.i 2)),(1,1,(.i 32))]),.s (.st 4 (.t 2) (.t 59))]) .ret)) (.seq (.reg [.q 61 (.bin .eql true (.t 19) (.k (.string (mk [105,110,116,54,52])))),.v 60 61]) (.cond (.t 60) (.seq (.reg [.v 62 0,.q 63 (.nc (.t 62)),.q 64 (.fa 1 (.t 63)),.l 65 (.ld1 (.t 64)),.q 66 (.bin .add true (.t 65) (.i 1)),.q 67 (.nc (.t 62)),.q 68 (.fa 1 (.t 67)),.s (.st 1 (.t 68) (.t 66))]) (.seq (.reg [.q 69 (.bd [(.int .i64 0),(.int .i64 0),(.string (mk [])),(.slice none 0 0)] [(0,1,(.i 2)),(1,1,(.i 64))]),.s (.st 4 (.t 2) (.t 69))]) .ret)) (.seq (.reg [.q 71 (.bin .eql true (.t 19) (.k (.string (mk [117,105,110,116,56])))),.v 70 71]) (.cond (.t 70) (.seq (.reg [.v 72 0,.q 73 (.nc (.t 72)),.q 74 (.fa 1 (.t 73)),.l 75 (.ld1 (.t 74)),.q 76 (.bin .add true (.t 75) (.i 1)),.q 77 (.nc (.t 72)),.q 78 (.fa 1 (.t 77)),.s (.st 1 (.t 78) (.t 76))]) (.seq (.reg [.q 79 (.bd [(.int .i64 0),(.int .i64 0),(.string (mk [])),(.slice none 0 0)] [(0,1,(.i 3)),(1,1,(.i 8))]),.s (.st 4 (.t 2) (.t 79))]) .ret)) (.seq (.reg [.q 81 (.bin .eql true (.t 19) (.k (.string (mk [117,105,110,116,49,54])))),.v 80 81]) (.cond (.t 80) (.seq (.reg [.v 82 0,.q 83 (.nc (.t 82)),.q 84 (.fa 1 (.t 83)),.l 85 (.ld1 (.t 84)),.q 86 (.bin .add true (.t 85) (.i 1)),.q 87 (.nc (.t 82)),.q 88 (.fa 1 (.t 87)),.s (.st 1 (.t 88) (.t 86))]) (.seq (.reg [.q 89 (.bd [(.int .i64 0),(.int .i64 0),(.string (mk [])),(.slice none 0 0)] [(0,1,(.i 3)),(1,1,(.i 16))]),.s (.st 4 (.t 2) (.t 89))]) .ret)) (.seq (.reg [.q 91 (.bin .eql true (.t 19) (.k (.string (mk [117,105,110,116,51,50])))),.v 90 91]) (.cond (.t 90) (.seq (.reg [.v 92 0,.q 93 (.nc (.t 92)),.q 94 (.fa 1 (.t 93)),.l 95 (.ld1 (.t 94)),.q 96 (.bin .add true (.t 95) (.i 1)),.q 97 (.nc (.t 92)),.q 98 (.fa 1 (.t 97)),.s (.st 1 (.t 98) (.t 96))]) (.seq (.reg [.q 99 (.bd [(.int .i64 0),(.int .i64 0),(.string (mk [])),(.slice none 0 0)] [(0,1,(.i 3)),(1,1,(.i 32))]),.s (.st 4 (.t 2) (.t 99))]) .ret)) (.seq (.reg [.q 101 (.bin .eql true (.t 19) (.k (.string (mk [116,101,120,116])))),.v 100 101]) (.cond (.t 100) (.seq (.reg [.v 102 0,.q 103 (.nc (.t 102)),.q 104 (.fa 1 (.t 103)),.l 105 (.ld1 (.t 104)),.q 106 (.bin .add true (.t 105) (.i 1)),.q 107 (.nc (.t 102)),.q 108 (.fa 1 (.t 107)),.s (.st 1 (.t 108) (.t 106))]) (.seq (.reg [.v 109 0,.a 110 (.cl 99 [(.t 109)] [0]),.q 111 (.bd [(.int .i64 0),(.int .i64 0),(.string (mk [])),(.slice none 0 0)] [(0,1,(.i 4)),(1,1,(.t 110))]),.s (.st 4 (.t 2) (.t 111))]) .ret)) (.seq (.reg [.q 113 (.bin .eql true (.t 19) (.k (.string (mk [108,105,115,116])))),.v 112 113]) (.cond (.t 112) (.seq (.reg [.v 114 0,.q 115 (.nc (.t 114)),.q 116 (.fa 1 (.t 115)),.l 117 (.ld1 (.t 116)),.q 118 (.bin .add true (.t 117) (.i 1)),.q 119 (.nc (.t 114)),.q 120 (.fa 1 (.t 119)),.s (.st 1 (.t 120) (.t 118))]) (.seq (.reg [.v 121 0,.a 122 (.cl 99 [(.t 121)] [0]),.v 3 122]) (xB))) .skip)))))))))))))))))))))) (wJ)
@[go_sem ↓] theorem aAS:bT AG:=bW _
def J2:PC:=.seq (.reg [.e 2 (.al (.agg #[(.int .i64 0),(.int .i64 0),(.string (mk [])),(.slice none 0 0)]) 37)]) (.seq (.seq (.reg [.v 4 0,.q 5 (.nc (.t 4)),.q 6 (.fa 2 (.t 5)),.l 7 (.ld1 (.t 6)),.q 8 (.bin .geq true (.t 7) (.i 0))]) (.cond (.t 8) (.seq (.reg [.q 9 (.bd [(.int .i64 0),(.int .i64 0),(.string (mk [])),(.slice none 0 0)] []),.s (.st 4 (.t 2) (.t 9))]) .ret) .skip)) (.seq (.seq (.reg [.v 10 0,.a 11 (.cl 48 [(.t 10)] [0]),.q 12 (.fld1 0 (.t 11)),.q 13 (.bin .neq true (.t 12) (.i 1))]) (.cond (.t 13) (.seq (.reg [.v 14 0,.a 15 (.cl 93 [(.t 14)] [0])]) (.seq (.reg [.q 16 (.bd [(.int .i64 0),(.int .i64 0),(.string (mk [])),(.slice none 0 0)] []),.s (.st 4 (.t 2) (.t 16))]) .ret)) .skip)) (AG)))
def FD:List RV:=[.ld (.ldn 4 (.t 2))]
theorem aBT:aT Tryz.prog true ⟨fun r k=>if r=3/\k=1 then .own [0] else if r=4/\k=1 then .own [0] else if r=6/\k=1 then .own [0] else if r=33/\k=1 then .own [0] else if r=36/\k=1 then .own [0] else if r=37/\k=1 then .own [0] else if r=38/\k=2 then .own [0] else if r=39/\k=1 then .own [0] else .own [],fun r=>[6,37,38,39].contains r⟩ Tryz.f56=some (J2,FD):=by kernel_rfl
def KS:PC:=.seq (.reg [.e 1 (.bx 37 (.t 0)),.q 2 (.mv (.i 0))]) (.seq (.seq (.reg [.q 3 (.fa 0 (.t 1)),.l 4 (.ld1 (.t 3)),.q 5 (.bin .neq true (.t 4) (.i 5))]) (.cond (.t 5) (.seq (.reg [.q 2 (.mv (.i 0))]) .ret) .skip)) (.seq (.reg [.q 6 (.fa 3 (.t 1)),.l 7 (.ld1 (.t 6)),.l 8 (.ia 4 (.t 7) (.i 0)),.l 9 (.ldn 4 (.t 8)),.a 10 (.cq 57 [(.t 9)]),.q 11 (.bin .add true (.i 1) (.t 10)),.v 2 11]) .ret))
def JH:List RV:=[.mv (.t 2)]
theorem aB5:aT Tryz.prog true ⟨fun r k=>if r=3/\k=4 then .q else .own [],fun _=>false⟩ Tryz.f57=some (KS,JH):=by kernel_rfl
def KP:PC:=.seq (.reg [.v 2 0,.q 3 (.nc (.t 2)),.q 4 (.fa 2 (.t 3)),.l 5 (.ld1 (.t 4)),.q 6 (.bin .lss true (.t 5) (.i 0))]) (.cond (.t 6) (.reg [.v 7 0,.v 8 0,.q 9 (.nc (.t 8)),.q 10 (.fa 0 (.t 9)),.l 11 (.ld1 (.t 10)),.v 12 0,.q 13 (.nc (.t 12)),.q 14 (.fa 1 (.t 13)),.l 15 (.ld1 (.t 14)),.l 16 (.ia 4 (.t 11) (.t 15)),.q 17 (.fa 3 (.t 16)),.l 18 (.ld1 (.t 17)),.q 19 (.nc (.t 7)),.q 20 (.fa 2 (.t 19)),.s (.st 1 (.t 20) (.t 18))]) .skip)
def JT:List RV:=[]
theorem aA8:aT Tryz.prog true ⟨fun _ _=>.own [],fun _=>false⟩ Tryz.f93=some (KP,JT):=by kernel_rfl
def CM:PC:=.seq (.reg [.q 2 (.mv (.k (.string (mk []))))]) (.seq (.seq (.reg [.v 3 0,.q 4 (.nc (.t 3)),.q 5 (.fa 2 (.t 4)),.l 6 (.ld1 (.t 5)),.q 7 (.bin .lss true (.t 6) (.i 0)),.v 8 7,⟨some 9,(some (8,true)),.q (.mv (.t 0))⟩,⟨some 10,(some (8,true)),.q (.nc (.t 9))⟩,⟨some 11,(some (8,true)),.q (.fa 0 (.t 10))⟩,⟨some 12,(some (8,true)),.l (.ld1 (.t 11))⟩,⟨some 13,(some (8,true)),.q (.mv (.t 0))⟩,⟨some 14,(some (8,true)),.q (.nc (.t 13))⟩,⟨some 15,(some (8,true)),.q (.fa 1 (.t 14))⟩,⟨some 16,(some (8,true)),.l (.ld1 (.t 15))⟩,⟨some 17,(some (8,true)),.l (.ia 4 (.t 12) (.t 16))⟩,⟨some 18,(some (8,true)),.q (.fa 0 (.t 17))⟩,⟨some 19,(some (8,true)),.l (.ld1 (.t 18))⟩,⟨some 20,(some (8,true)),.q (.bin .eql true (.t 19) (.i 1))⟩,.a 21 (.pick (.t 8) (.t 20) (.k (.bool false))),.v 22 21,⟨some 23,(some (22,true)),.q (.mv (.t 0))⟩,⟨some 24,(some (22,true)),.q (.nc (.t 23))⟩,⟨some 25,(some (22,true)),.q (.fa 0 (.t 24))⟩,⟨some 26,(some (22,true)),.l (.ld1 (.t 25))⟩,⟨some 27,(some (22,true)),.q (.mv (.t 0))⟩,⟨some 28,(some (22,true)),.q (.nc (.t 27))⟩,⟨some 29,(some (22,true)),.q (.fa 1 (.t 28))⟩,⟨some 30,(some (22,true)),.l (.ld1 (.t 29))⟩,⟨some 31,(some (22,true)),.l (.ia 4 (.t 26) (.t 30))⟩,⟨some 32,(some (22,true)),.q (.fa 1 (.t 31))⟩,⟨some 33,(some (22,true)),.l (.ld1 (.t 32))⟩,⟨some 34,(some (22,true)),.cq 96 [(.t 33)]⟩,.a 35 (.pick (.t 22) (.t 34) (.k (.bool false)))]) (.cond (.t 35) (.seq (.reg [.v 36 0,.q 37 (.nc (.t 36)),.q 38 (.fa 1 (.t 37)),.l 39 (.ld1 (.t 38)),.q 40 (.bin .add true (.t 39) (.i 1)),.q 41 (.nc (.t 36)),.q 42 (.fa 1 (.t 41)),.s (.st 1 (.t 42) (.t 40))]) (.seq (.reg [.v 43 0,.q 44 (.nc (.t 43)),.q 45 (.fa 0 (.t 44)),.l 46 (.ld1 (.t 45)),.v 47 0,.q 48 (.nc (.t 47)),.q 49 (.fa 1 (.t 48)),.l 50 (.ld1 (.t 49)),.q 51 (.bin .sub true (.t 50) (.i 1)),.l 52 (.ia 4 (.t 46) (.t 51)),.q 53 (.fa 1 (.t 52)),.l 54 (.ld1 (.t 53)),.v 2 54]) .ret)) .skip)) (.seq (.reg [.v 55 0,.a 56 (.cl 93 [(.t 55)] [0])]) (.seq (.reg [.q 2 (.mv (.k (.string (mk []))))]) .ret)))
def AI:List RV:=[.mv (.t 2)]
theorem Z1:aT Tryz.prog true ⟨fun r k=>if r=1/\k=31 then .q else if r=4/\k=1 then .own [0] else .own [],fun _=>false⟩ Tryz.f94=some (CM,AI):=by kernel_rfl
def S6:PC:=.seq (.reg [.q 2 (.mv (.k (.bool false)))]) (.seq (.seq (.reg [.v 5 0,.q 6 (.lnS (.t 5)),.q 7 (.bin .lss true (.t 6) (.i 1)),.v 8 7,⟨some 9,(some (8,false)),.q (.mv (.t 0))⟩,⟨some 10,(some (8,false)),.q (.lnS (.t 9))⟩,⟨some 11,(some (8,false)),.q (.bin .gtr true (.t 10) (.i 16))⟩,.a 12 (.pick (.t 8) (.k (.bool true)) (.t 11)),.v 13 12,⟨some 14,(some (13,false)),.q (.mv (.t 0))⟩,⟨some 15,(some (13,false)),.ix (.t 14) (.i 0)⟩,⟨some 16,(some (13,false)),.q (.bin .lss true (.t 15) (.k (.int .u8 65)))⟩,.a 17 (.pick (.t 13) (.k (.bool true)) (.t 16)),.v 18 17,⟨some 19,(some (18,false)),.q (.mv (.t 0))⟩,⟨some 20,(some (18,false)),.ix (.t 19) (.i 0)⟩,⟨some 21,(some (18,false)),.q (.bin .gtr true (.t 20) (.k (.int .u8 90)))⟩,.a 22 (.pick (.t 18) (.k (.bool true)) (.t 21))]) (.cond (.t 22) (.seq (.reg [.q 2 (.mv (.k (.bool false)))]) .ret) .skip)) (.seq (.seq (.reg [.q 3 (.mv (.i 0))]) (.block 0 (.loop (.seq (.seq (.reg [.v 23 3,.v 24 0,.q 25 (.lnS (.t 24)),.q 26 (.bin .lss true (.t 23) (.t 25))]) (.cond (.t 26) .skip (.exit 0))) (.seq (.block 1 (.seq (.reg [.v 29 0,.v 30 3,.a 31 (.ix (.t 29) (.t 30)),.v 4 31]) (.seq (.reg [.v 32 4,.q 33 (.bin .geq true (.t 32) (.k (.int .u8 97))),.v 34 33,⟨some 35,(some (34,true)),.q (.mv (.t 4))⟩,⟨some 36,(some (34,true)),.q (.bin .leq true (.t 35) (.k (.int .u8 122)))⟩,.a 37 (.pick (.t 34) (.t 36) (.k (.bool false))),.v 38 37,⟨some 39,(some (38,false)),.q (.mv (.t 4))⟩,⟨some 40,(some (38,false)),.q (.bin .geq true (.t 39) (.k (.int .u8 65)))⟩,⟨some 41,(some (38,false)),.q (.mv (.t 40))⟩,⟨some 42,(some (41,true)),.q (.mv (.t 4))⟩,⟨some 43,(some (41,true)),.q (.bin .leq true (.t 42) (.k (.int .u8 90)))⟩,⟨some 44,(some (38,false)),.pick (.t 41) (.t 43) (.k (.bool false))⟩,.a 45 (.pick (.t 38) (.k (.bool true)) (.t 44)),.v 46 45,⟨some 47,(some (46,false)),.q (.mv (.t 4))⟩,⟨some 48,(some (46,false)),.q (.bin .geq true (.t 47) (.k (.int .u8 48)))⟩,⟨some 49,(some (46,false)),.q (.mv (.t 48))⟩,⟨some 50,(some (49,true)),.q (.mv (.t 4))⟩,⟨some 51,(some (49,true)),.q (.bin .leq true (.t 50) (.k (.int .u8 57)))⟩,⟨some 52,(some (46,false)),.pick (.t 49) (.t 51) (.k (.bool false))⟩,.a 53 (.pick (.t 46) (.k (.bool true)) (.t 52)),.v 54 53,⟨some 55,(some (54,false)),.q (.mv (.t 4))⟩,⟨some 56,(some (54,false)),.q (.bin .eql true (.t 55) (.k (.int .u8 95)))⟩,.a 57 (.pick (.t 54) (.k (.bool true)) (.t 56)),.q 58 (.not (.t 57))]) (.cond (.t 58) (.seq (.reg [.q 2 (.mv (.k (.bool false)))]) .ret) .skip)))) (.reg [.v 27 3,.q 28 (.bin .add true (.t 27) (.i 1)),.v 3 28])))))) (.seq (.reg [.q 2 (.mv (.k (.bool true)))]) .ret)))
def R9:List RV:=[.mv (.t 2)]
theorem ZD:aT Tryz.prog true ⟨fun _ _=>.own [],fun _=>false⟩ Tryz.f96=some (S6,R9):=by kernel_rfl
def pc99_4:PC:=.seq (.gh (.reg [.v 41 0,.a 42 (.cl 47 [(.t 41),(.i 2)] [0]),.q 43 (.fld1 2 (.t 42)),.v 3 43])) (.seq (.reg [.v 44 0,.a 45 (.cl 46 [(.t 44),(.i 4),(.k (.string (mk [93])))] [0])]) (.seq (.reg [.v 46 3,.v 2 46]) .ret))
@[go_sem ↓] theorem aBB:bT pc99_4:=bW _
def m8:PC:=.seq (.seq (.gh (.reg [.v 6 0,.q 7 (.nc (.t 6)),.q 8 (.fa 2 (.t 7)),.l 9 (.ld1 (.t 8)),.q 10 (.bin .lss true (.t 9) (.i 0)),.v 11 10,⟨some 12,(some (11,true)),.q (.mv (.t 0))⟩,⟨some 13,(some (11,true)),.q (.nc (.t 12))⟩,⟨some 14,(some (11,true)),.q (.fa 0 (.t 13))⟩,⟨some 15,(some (11,true)),.l (.ld1 (.t 14))⟩,⟨some 16,(some (11,true)),.q (.mv (.t 0))⟩,⟨some 17,(some (11,true)),.q (.nc (.t 16))⟩,⟨some 18,(some (11,true)),.q (.fa 1 (.t 17))⟩,⟨some 19,(some (11,true)),.l (.ld1 (.t 18))⟩,⟨some 20,(some (11,true)),.l (.ia 4 (.t 15) (.t 19))⟩,⟨some 21,(some (11,true)),.q (.fa 0 (.t 20))⟩,⟨some 22,(some (11,true)),.l (.ld1 (.t 21))⟩,⟨some 23,(some (11,true)),.q (.bin .eql true (.t 22) (.i 2))⟩,.a 24 (.pick (.t 11) (.t 23) (.k (.bool false))),.v 25 24,⟨some 26,(some (25,true)),.q (.mv (.t 0))⟩,⟨some 27,(some (25,true)),.q (.nc (.t 26))⟩,⟨some 28,(some (25,true)),.q (.fa 0 (.t 27))⟩,⟨some 29,(some (25,true)),.l (.ld1 (.t 28))⟩,⟨some 30,(some (25,true)),.q (.mv (.t 0))⟩,⟨some 31,(some (25,true)),.q (.nc (.t 30))⟩,⟨some 32,(some (25,true)),.q (.fa 1 (.t 31))⟩,⟨some 33,(some (25,true)),.l (.ld1 (.t 32))⟩,⟨some 34,(some (25,true)),.l (.ia 4 (.t 29) (.t 33))⟩,⟨some 35,(some (25,true)),.q (.fa 2 (.t 34))⟩,⟨some 36,(some (25,true)),.l (.ld1 (.t 35))⟩,⟨some 37,(some (25,true)),.q (.bin .lss true (.t 36) (.i 0))⟩,.a 38 (.pick (.t 25) (.t 37) (.k (.bool false)))])) (.cond (.t 38) (.reg [.v 39 0,.a 40 (.cl 93 [(.t 39)] [0])]) .skip)) (pc99_4)
@[go_sem ↓] theorem ZQ:bT m8:=bW _
def U2:PC:=.seq (.reg [.q 2 (.mv (.i 0))]) (.seq (.reg [.v 4 0,.a 5 (.cl 46 [(.t 4),(.i 4),(.k (.string (mk [91])))] [0])]) (m8))
def FU:List RV:=[.mv (.t 2)]
theorem aBI:aT Tryz.prog true ⟨fun r k=>if r=1/\k=1 then .own [0] else if r=3/\k=1 then .own [0] else if r=4/\k=1 then .own [0] else if r=5/\k=1 then .own [0] else .own [],fun r=>[2,4].contains r⟩ Tryz.f99=some (U2,FU):=by kernel_rfl
def bv (z:Fs):Int:=bif z.bad then (z.off.toNat:Int) else -1
abbrev d9 (ts:List Tk) (z:Fs):Hp:=[.cells [.fz (ts.map cI),.vl (.int .i64 z.n),.vl (.int .i64 (bv z))] 82]
def n5 (av0:List S) (V:List Tk->Fs->S) (F:List Tk->Fs->Fs):List S->Hp->(S->Hp->Prop)->Prop:=fun av H K=>
 ∃ ts z,av=.va (.c1 (.pt 0 0)) :: av0/\H=d9 ts z/\Tks ts/\z.n < ts.length/\K (V ts z) (d9 ts (F ts z))
theorem jX {av0:List S} {V:List Tk->Fs->S} {F:List Tk->Fs->Fs} {ts:List Tk} {z:Fs} {K:S->Hp->Prop} (h1:Tks ts) (h2:z.n < ts.length) (hK:K (V ts z) (d9 ts (F ts z))) :
 n5 av0 V F (.va (.c1 (.pt 0 0)) :: av0) (d9 ts z) K:=⟨ts,z,rfl,rfl,h1,h2,hK⟩
theorem pJ (a:Int) (n:Nat):bv ⟨true,a,n⟩=(a.toNat:Int):=rfl
theorem kD (a:Int) (n:Nat):bv ⟨false,a,n⟩=-1:=rfl
theorem kP:decide ((-1:Int) < 0)=true:=rfl
theorem NG:decide ((0:Int)<=-1)=false:=rfl
theorem nB (n:Nat):decide ((n:Int) < 0)=false:=decide_eq_false (by omega)
def jB (k:Int) (w:List UInt8) (ts:List Tk) (z:Fs):Fs:=bif aJ k w ts z then ⟨false,z.off,z.n + 1⟩ else bB ts z
def ES (k:Int) (ts:List Tk) (z:Fs):Bool:=!z.bad && (aN ts z.n).k == k
def IN (k:Int) (ts:List Tk) (z:Fs):Tk:=bif ES k ts z then aN ts z.n else ⟨0,[],0,0⟩
def CC (k:Int) (ts:List Tk) (z:Fs):Fs:=bif ES k ts z then ⟨false,z.off,z.n + 1⟩ else bB ts z
def FI:W.Spec:=n5 [] xL bB
def LP:W.Spec:=n5 [] (fun ts z=>.va (.gs (cI (aN ts z.n)))) (fun _ z=>z)
def YD:W.Spec:=fun av H K=>∃ k w,n5 [iS .i64 k,tS w] (fun ts z=>bS (aJ k (bl w) ts z)) (fun _ z=>z) av H K
def vH:W.Spec:=fun av H K=>∃ k w,n5 [iS .i64 k,tS w] xL (jB k (bl w)) av H K
def E9:W.Spec:=fun av H K=>∃ k,n5 [iS .i64 k] (fun ts z=>.va (.gs (cI (IN k ts z)))) (CC k) av H K
def SA:W.Spec:=n5 [] (fun ts z=>tS (bZ true ts z)) (bM true)
def L9:W.Spec:=n5 [] (fun ts z=>iS .i64 (dS ts z)) dV
section
variable {ts:List Tk} {z:Fs} {K:S->Hp->Prop}
theorem fQ (h1:Tks ts) (h2:z.n < ts.length) (hK:K (.tu []) (d9 ts (bB ts z))):FI [.va (.c1 (.pt 0 0))] (d9 ts z) K:=jX h1 h2 hK
theorem yD (h1:Tks ts) (h2:z.n < ts.length) (hK:K (.va (.gs (cI (aN ts z.n)))) (d9 ts z)):LP [.va (.c1 (.pt 0 0))] (d9 ts z) K:=jX (F:=fun _ z=>z) h1 h2 hK
theorem PU {k:Int} {w:ByteArray} (h1:Tks ts) (h2:z.n < ts.length) (hK:K (bS (aJ k (bl w) ts z)) (d9 ts z)):YD [.va (.c1 (.pt 0 0)),iS .i64 k,tS w] (d9 ts z) K:=⟨k,w,jX (F:=fun _ z=>z) h1 h2 hK⟩
theorem mF {k:Int} {w:ByteArray} (h1:Tks ts) (h2:z.n < ts.length) (hK:K (.tu []) (d9 ts (jB k (bl w) ts z))):vH [.va (.c1 (.pt 0 0)),iS .i64 k,tS w] (d9 ts z) K:=⟨k,w,jX (F:=jB k (bl w)) h1 h2 hK⟩
theorem HQ {k:Int} (h1:Tks ts) (h2:z.n < ts.length) (hK:K (.va (.gs (cI (IN k ts z)))) (d9 ts (CC k ts z))):E9 [.va (.c1 (.pt 0 0)),iS .i64 k] (d9 ts z) K:=⟨k,jX (F:=CC k) h1 h2 hK⟩
theorem KA (h1:Tks ts) (h2:z.n < ts.length) (hK:K (tS (bZ true ts z)) (d9 ts (bM true ts z))):SA [.va (.c1 (.pt 0 0))] (d9 ts z) K:=jX h1 h2 hK
theorem xN (h1:Tks ts) (h2:z.n < ts.length) (hK:K (iS .i64 (dS ts z)) (d9 ts (dV ts z))):L9 [.va (.c1 (.pt 0 0))] (d9 ts z) K:=jX h1 h2 hK
end
theorem JU {ts:List Tk} {n:Nat} {k:Int} (h:Tks ts) (hn:n < ts.length) (hk:(aN ts n).k=k) (h0:k ≠ 0):dR ts n=n + 1/\n + 1 < ts.length:=by
 have hne:¬ (n + 1=ts.length):=fun e=>h0 (hk ▸ (h.e.last _ _ (dA hn)).2 e)
 have hlt:n + 1 < ts.length:=by omega
 exact ⟨if_pos hlt,hlt⟩
theorem HT {k:Int} {w:List UInt8} {ts:List Tk} {z:Fs} (h0:k ≠ 0) (h:Tks ts) (hn:z.n < ts.length):jB k w ts z=bif aJ k w ts z then ⟨false,z.off,dR ts z.n⟩ else bB ts z:=by
 unfold jB
 cases hk:aJ k w ts z
 · rfl
 · rw [(kV h0 h.e hn hk).1]
theorem zS {w:List UInt8} {ts:List Tk} {z:Fs} (h:Tks ts) (hn:z.n < ts.length):jB 4 w ts z=bN w ts z:=HT (by decide) h hn
theorem w9 {ts:List Tk} {z:Fs} (h:Tks ts) (hn:z.n < ts.length):CC 2 ts z=eF false ts z/\(IN 2 ts z).n=eL false ts z:=by
 have e:ES 2 ts z=fN false ts z:=by unfold ES fN; rw [Bool.not_false,Bool.true_or,Bool.and_true]
 unfold CC IN eF eL
 rw [<-e]
 cases hb:ES 2 ts z
 · exact ⟨rfl,rfl⟩
 · have:=(JU h hn (eq_of_beq (Bool.and_eq_true_iff.1 hb).2) (by decide)).1
   rw [this]; exact ⟨rfl,rfl⟩
theorem oS:Meets Tryz.prog 93 FI:=by
 refine aF Tryz.func93 aA8 1 (by rw [Tryz.ntmps93]; decide) (aB _) (fun av H K h=>by obtain ⟨_,_,rfl,_⟩:=h; rfl) ?_
 rintro av H K ⟨ts,⟨b,a,n⟩,rfl,rfl,ht,hn,hK⟩
 unfold bB xL at hK
 have hle:=ht.e.le
 simp only at hn
 have q1:=bH (row:=cI) (dA hn)
 cases b with
 | true=>
  have hb:=nB a.toNat
  simp (maxSteps:=9^6) -dsimp only [go_sem,KP,JT,pJ,hb]
  exact .done hK
 | false=>
  simp (maxSteps:=9^6) -dsimp only [go_sem,KP,JT,kD,kP,↓q1,cI]
  exact ⟨⟨by omega,by omega⟩,.done hK⟩
theorem QA:Meets Tryz.prog 48 LP:=by
 refine aF Tryz.func48 aCB 1 (by rw [Tryz.ntmps48]; decide) (aB _) (fun av H K h=>by obtain ⟨_,_,rfl,_⟩:=h; rfl) ?_
 rintro av H K ⟨ts,⟨b,a,n⟩,rfl,rfl,ht,hn,hK⟩
 simp only at hn
 have q1:=bH (row:=cI) (dA hn)
 simp (maxSteps:=9^6) -dsimp only [go_sem,RN,UV,↓q1,cI]
 refine ⟨⟨by omega,by omega⟩,.sel [0] (by simp) (by simp) rfl (.done ?_)⟩
 simpa [go_sem,cI] using hK
theorem ZS:Meets Tryz.prog 49 YD:=by
 refine aF Tryz.func49 ZO 3 (by rw [Tryz.ntmps49]; decide) (aB _) (fun av H K h=>by obtain ⟨_,_,_,_,rfl,_⟩:=h; rfl) ?_
 rintro av H K ⟨k,w,ts,⟨b,a,n⟩,rfl,rfl,ht,hn,hK⟩
 simp only at hn
 have q1:=bH (row:=cI) (dA hn)
 unfold aJ eD at hK
 cases b with
 | true=>
  have hb:=nB a.toNat
  simp (maxSteps:=9^6) -dsimp only [go_sem,JF,KJ,pJ,hb]
  exact .done hK
 | false=>
  simp (maxSteps:=9^6) -dsimp only [go_sem,JF,KJ,kD,kP,↓q1,cI]
  refine ⟨⟨by omega,by omega⟩,fun hk=>⟨⟨by omega,by omega⟩,.done ?_⟩,fun hk=>.done ?_⟩
  · simp only [hk,Bool.not_false,Bool.true_and] at hK; exact hK
  · simp only [hk,Bool.not_false,Bool.true_and,Bool.false_and] at hK; exact hK
theorem UF:Meets Tryz.prog 47 E9:=by
 refine aF Tryz.func47 ZX 2 (by rw [Tryz.ntmps47]; decide) (aA oS (aB _)) (fun av H K h=>by obtain ⟨_,_,_,rfl,_⟩:=h; rfl) ?_
 rintro av H K ⟨k,ts,⟨b,a,n⟩,rfl,rfl,ht,hn,hK⟩
 simp only at hn
 have hle:=ht.e.le
 have q1:=bH (row:=cI) (dA hn)
 unfold IN CC ES at hK
 cases b with
 | true=>
  have hb:=nB a.toNat
  simp (maxSteps:=9^6) -dsimp only [go_sem,JX,KU,pJ,hb]
  refine fQ (z:=⟨true,a,n⟩) ht hn ?_
  simp (maxSteps:=9^6) -dsimp only [go_sem]
  refine .sel [0] (by simp) (by simp) rfl (.done ?_)
  simpa [go_sem,cI] using hK
 | false=>
  simp (maxSteps:=9^6) -dsimp only [go_sem,JX,KU,kD,kP,↓q1,cI]
  refine ⟨⟨by omega,by omega⟩,fun hk=>⟨⟨by omega,by omega⟩,⟨by omega,by omega⟩,⟨by omega,by omega⟩,fun x hx=>?_⟩,fun hk=>fQ (z:=⟨false,a,n⟩) ht hn ?_⟩
  · rw [show ((n:Int) + 1 - 1).toNat=n by omega,dA hn] at hx
    obtain rfl:=aZ hx
    simp only [hk,Bool.not_false,Bool.true_and,aO,cI] at hK
    refine .sel [0] (by simp) (by simp) rfl (.done ?_)
    simp -dsimp only [go_sem]
    exact hK
  · simp only [hk] at hK
    simp (maxSteps:=9^6) -dsimp only [go_sem]
    refine .sel [0] (by simp) (by simp) rfl (.done ?_)
    simpa [go_sem,cI] using hK
theorem BF:Meets Tryz.prog 46 vH:=by
 refine aF Tryz.func46 Y4 3 (by rw [Tryz.ntmps46]; decide) (aA ZS (aA oS (aB _))) (fun av H K h=>by obtain ⟨_,_,_,_,rfl,_⟩:=h; rfl) ?_
 rintro av H K ⟨k,w,ts,z,rfl,rfl,ht,hn,hK⟩
 have hle:=ht.e.le
 unfold jB xL at hK
 simp (maxSteps:=9^6) -dsimp only [go_sem,TU,RE]
 refine PU ht hn ?_
 cases hk:aJ k (bl w) ts z with
 | true=>
  rw [hk,aO] at hK
  have hb:z.bad=false:=by unfold aJ at hk; cases h:z.bad; rfl; rw [h] at hk; cases hk
  simp (maxSteps:=9^6) -dsimp only [go_sem]
  refine ⟨by omega,.done ?_⟩
  rw [show bv z=-1 by unfold bv; rw [hb]; rfl]
  exact hK
 | false=>
  rw [hk,aH] at hK
  simp (maxSteps:=9^6) -dsimp only [go_sem]
  refine fQ ht hn ?_
  simp (maxSteps:=9^6) -dsimp only [go_sem]
  exact .done hK
theorem VG {ts:List Tk} {z:Fs} (h1:z.bad=false) (h2:((aN ts z.n).k == 2)=true) (h3:decide ((aN ts z.n).n < 0)=true):eF true ts z=bB ts z/\eL true ts z=0/\eF false ts (bB ts z)=bB ts z/\eL false ts (bB ts z)=0:=by
 have e:fN true ts z=false:=by unfold fN; rw [h1,h2]; have:=of_decide_eq_true h3; simp; omega
 have e2:fN false ts (bB ts z)=false:=by unfold fN bB; rw [h1]; rfl
 unfold eF eL
 rw [e,e2]
 refine ⟨rfl,rfl,?_,rfl⟩
 show bB ts (bB ts z)=_
 unfold bB; rw [h1]; rfl
theorem GN {ts:List Tk} {z:Fs} (h:z.bad=true\/((aN ts z.n).k == 2)=false\/decide ((aN ts z.n).n < 0)=false):eF true ts z=eF false ts z/\eL true ts z=eL false ts z:=by
 have e:fN true ts z=fN false ts z:=by
  unfold fN
  rcases h with h | h | h
  · rw [h]; rfl
  · rw [h]; simp
  · have:=of_decide_eq_false h
    rw [show decide (0<=(aN ts z.n).n)=true from decide_eq_true (by omega)]; simp
 unfold eF eL
 rw [e]; exact ⟨rfl,rfl⟩
theorem UY:Meets Tryz.prog 99 L9:=by
 refine aF Tryz.func99 aBI 1 (by rw [Tryz.ntmps99]; decide) (aA BF (aA UF (aA oS (aB _)))) (fun av H K h=>by obtain ⟨_,_,rfl,_⟩:=h; rfl) ?_
 rintro av H K ⟨ts,z,rfl,rfl,ht,hn,hK⟩
 have hK:K (iS .i64 (eL true ts (bN [91] ts z))) (d9 ts (bN [93] ts (eF true ts (bN [91] ts z)))):=hK
 simp (maxSteps:=9^6) -dsimp only [go_sem,U2,FU]
 refine mF ht hn ?_
 rw [show bl (mk [91])=[91] from rfl,zS ht hn]
 simp (maxSteps:=9^6) -dsimp only [go_sem]
 have hn1:=(cK (w:=[91]) hn).2
 generalize bN [91] ts z=z1 at *
 obtain ⟨b,a,n⟩:=z1
 simp only at hn1
 have q1:=bH (row:=cI) (dA hn1)
 have tail:∀ z2:Fs,z2.n < ts.length->eF false ts z2=eF true ts ⟨b,a,n⟩->eL false ts z2=eL true ts ⟨b,a,n⟩->
  vc [(46,Entry.s vH),(47,Entry.s E9),(93,Entry.s FI)] 1 pc99_4.ungh (cN [(0,.va (.c1 (.pt 0 0)))]) (d9 ts z2) (eB 1 FU K):=fun z2 h1 h2 h3=>by
  rw [<-h2,<-h3,<-(w9 ht h1).1,<-(w9 ht h1).2] at hK
  simp (maxSteps:=9^6) -dsimp only [go_sem,pc99_4,FU]
  refine HQ ht h1 ?_
  simp (maxSteps:=9^6) -dsimp only [go_sem,cI]
  have h4:(CC 2 ts z2).n < ts.length:=by rw [(w9 ht h1).1]; exact (kN h1).2
  refine mF ht h4 ?_
  rw [show bl (mk [93])=[93] from rfl,zS ht h4]
  simp (maxSteps:=9^6) -dsimp only [go_sem]
  exact .done hK
 refine bK (up:=[(0,.va (.c1 (.pt 0 0)))]) (Hs:=d9 ts ⟨b,a,n⟩) 1 ?_ ?_ ?_
 case refine_2=>simp -dsimp only [go_sem]<;>simp
 case refine_3=>simp -dsimp only [go_sem]<;>simp
 cases b with
 | true=>
  have hb:=nB a.toNat
  simp (maxSteps:=9^6) -dsimp only [go_sem,m8,pJ,hb]
  obtain ⟨e1,e2⟩:=GN (ts:=ts) (z:=⟨true,a,n⟩) (.inl rfl)
  refine bK 1 (tail ⟨true,a,n⟩ hn1 e1.symm e2.symm) ?_ ?_
  · simp -dsimp only [go_sem]<;>simp
  · simp -dsimp only [go_sem,pJ]<;>simp [bv]
 | false=>
  cases h2:(aN ts n).k == 2 with
  | false=>
   simp (maxSteps:=9^6) -dsimp only [go_sem,m8,kD,kP,↓q1,cI,h2]
   obtain ⟨e1,e2⟩:=GN (ts:=ts) (z:=⟨false,a,n⟩) (.inr (.inl h2))
   refine ⟨by omega,bK 1 (tail ⟨false,a,n⟩ hn1 e1.symm e2.symm) ?_ ?_⟩
   · simp -dsimp only [go_sem]<;>simp
   · simp -dsimp only [go_sem]<;>simp [bv]
  | true=>
   cases h3:decide ((aN ts n).n < 0) with
   | false=>
    simp (maxSteps:=9^6) -dsimp only [go_sem,m8,kD,kP,↓q1,cI,h2,h3]
    obtain ⟨e1,e2⟩:=GN (ts:=ts) (z:=⟨false,a,n⟩) (.inr (.inr h3))
    refine ⟨by omega,by omega,bK 1 (tail ⟨false,a,n⟩ hn1 e1.symm e2.symm) ?_ ?_⟩
    · simp -dsimp only [go_sem]<;>simp
    · simp -dsimp only [go_sem]<;>simp [bv]
   | true=>
    simp (maxSteps:=9^6) -dsimp only [go_sem,m8,kD,kP,↓q1,cI,h2,h3]
    obtain ⟨e1,e2,e3,e4⟩:=VG (ts:=ts) (z:=⟨false,a,n⟩) rfl h2 h3
    refine ⟨by omega,by omega,fQ (z:=⟨false,a,n⟩) ht hn1 ?_⟩
    simp (maxSteps:=9^6) -dsimp only [go_sem]
    refine bK 1 (tail (bB ts ⟨false,a,n⟩) (by rw [fM]; exact hn1) (by rw [e1,e3]) (by rw [e2,e4])) ?_ ?_
    · simp -dsimp only [go_sem]<;>simp
    · simp -dsimp only [go_sem]<;>simp
def wInt:List UInt8:=[105,110,116]
def wUint:List UInt8:=[117,105,110,116]
def kC (x:List UInt8):Bool:=match x with | b :: _=>decide (65<=b) && decide (b<=90) | []=>false
def SY (t:Ty):List UInt8:=bif bl t.n == [] && (t.s == 8 || t.s == 16 || t.s == 32 || (t.s == 64 && t.k == 2)) then wInt ++ cD t.s else []
def L0 (t:Ty):List UInt8:=bif t.s == 0 && bX (bl t.n) && kC (bl t.n) then bl t.n else []
theorem RH {A:Bool} {x:List UInt8} {c1 c2:UInt8} (h1:A=true->x[0]? = some c1) (h2:(A && decide (65<=(c1.toNat:Int)))=true->x[0]? = some c2):(A && decide (65<=(c1.toNat:Int)) && decide ((c2.toNat:Int)<=90))=(A && kC x):=by
 cases A
 · rfl
 have h1:=h1 rfl
 match x,h1 with
 | b :: r,h1=>
  obtain rfl:b=c1:=aZ h1
  have e1:decide (65<=(b.toNat:Int))=decide (65<=b):=decide_eq_decide.2 (by rw [UInt8.le_iff_toNat_le]; exact Int.ofNat_le (m:=65))
  rw [e1] at h2 ⊢
  unfold kC
  cases h3:decide (65<=b)
  · simp only [h3]; rfl
  · rw [h3] at h2
    obtain rfl:b=c2:=aZ (h2 rfl)
    simp only [Bool.true_and,h3]
    exact decide_eq_decide.2 (show ((b.toNat:Int)<=((90:Nat):Int)) ↔ b<=90 from Int.ofNat_le.trans (UInt8.le_iff_toNat_le (b:=90)).symm)
theorem CQ {x:List UInt8} {A:Bool} (h:(A && bX x)=true):0 < x.length:=by
 rw [Bool.and_eq_true] at h
 match x,h.2 with
 | _ :: _,_=>simp
def iP (t:Ty):List UInt8:=
 bif decide (0 < (t.e.length:Int)) then [] else
 bif t.k == 1 then bif t.s == 0 && bl t.n == [] then gR else [] else
 bif t.k == 3 then bif bl t.n == [] && (t.s == 8 || t.s == 16 || t.s == 32 || (t.s == 64 && t.k == 2)) then wUint ++ cD t.s else [] else
 bif t.k == 2 then SY t else
 bif t.k == 4 then bif decide (0<=t.s) && bl t.n == [] then wText ++ [91] ++ cD t.s ++ [93] else [] else
 bif t.k == 6 || t.k == 7 then L0 t else []
noncomputable def pxFn:Fun:=rM jI C.ty fun t=>.string (mk (iP t))
attribute [go_sem] pxFn
theorem F7:Meets Tryz.prog 53 pxFn.sp:=by
 refine aF Tryz.func53 aAD 1 (by rw [Tryz.ntmps53]; decide) (aK zA (aK qM (aB _))) kS ?_
 rintro av H K ⟨⟨h,rfl⟩,hK⟩
 obtain ⟨_,rfl,t,rfl,hs⟩:=fT h
 have hK:K (tS (mk (iP t))) []:=by
  have:pxFn.val [.va (.gs (aP t))]=tA (mk (iP t)):=by simp -dsimp only [go_sem]
  rw [this] at hK; exact hK
 clear h
 have fin:∀ (x:List UInt8) (R:Hp),iP t=x->W.Fin 0 K (tS (mk x)) R:=fun x R h1=>by
  rw [h1] at hK
  exact .z (hK)
 simp (maxSteps:=9^6) -dsimp only [go_sem,TN,TR,aY t]
 have hsn:cT t.s:=hs.s
 have hln:(bl t.n).length<=9223372036854775807:=hs.n
 have hd:(cD t.s).length<=21:=gM hsn.1 hsn.2
 repeat' first | (intro _) | (refine And.intro ?_ ?_)
 all_goals first
  | exact hsn.1
  | exact hsn.2
  | omega
  | exact Int.ofNat_lt.2 (CQ ‹(t.s == 0 && bX (bl t.n))=true›)
  | exact Int.ofNat_lt.2 (CQ (Bool.and_eq_true_iff.1 ‹(t.s == 0 && bX (bl t.n) && _)=true›).1)
  | (refine fin _ _ ?_; unfold iP; simp only [*,aO,aH,Bool.or_true,Bool.true_or]; done)
  | (refine fin _ _ ?_; unfold iP; simp only [*,aO,aH,Bool.or_true,Bool.true_or]; rfl)
  | (refine fin _ _ ?_; unfold iP; simp only [*,aO,aH,Bool.or_true,Bool.true_or]; unfold SY; rename_i h; rw [h]; rfl)
  | (refine fin _ _ ?_; unfold iP; simp only [*,aO,aH,Bool.or_true,Bool.true_or]; unfold L0; rename_i q1 _ q2 q; rw [<-RH q1 q2,q]; rfl)
  | (simp [*]; done)
  | (simp_all; done)
  | skip
def wOfs:List UInt8:=[93,32,111,102,32]
def pY (s:Int):List UInt8:=[108,105,115,116,91] ++ (cD s ++ wOfs)
def dU:Nat->Ty->List UInt8
 | f,t=>bif t.k == 5 then (match f with
  | 0=>[]
  | f + 1=>bif decide (t.s < 0) || !(bl t.n == []) || (t.e.length:Int) != 1 then [] else
   bif dU f (t.e.headD default) == [] then [] else pY t.s ++ dU f (t.e.headD default)) else iP t
noncomputable def txFn:Fun:=rM jI C.ty fun t=>.string (mk (dU 6 t))
attribute [go_sem] txFn
theorem tW {f:Nat} {t:Ty} (h:(t.k == 5)=false):dU f t=iP t:=by unfold dU; rw [h]; rfl
theorem LH {t:Ty} (h:(t.k == 5)=true):dU 0 t=[]:=by unfold dU; rw [h]; rfl
theorem oG {f:Nat} {t:Ty} (h:(t.k == 5)=true):dU (f + 1) t=bif decide (t.s < 0) || !(bl t.n == []) || (t.e.length:Int) != 1 then [] else
 bif dU f (t.e.headD default) == [] then [] else pY t.s ++ dU f (t.e.headD default):=by rw [dU,h]; rfl
theorem fJ {b:Bool} {x y:List UInt8} {n:Nat} (hx:x.length<=n) (hy:y.length<=n):(bif b then x else y).length<=n:=by cases b<;>assumption
theorem NN (t:Ty):(L0 t).length<=30:=by
 unfold L0
 cases h:t.s == 0 && bX (bl t.n) && kC (bl t.n)
 · exact Nat.zero_le _
 · rw [Bool.and_eq_true,Bool.and_eq_true] at h
   have:=jG h.1.2
   rw [aO]; omega
theorem wS {t:Ty} (h:cT t.s):(iP t).length<=30:=by
 have hd:(cD t.s).length<=21:=gM h.1 h.2
 have h0:([]:List UInt8).length<=30:=by decide
 unfold iP SY
 refine fJ h0 (fJ (fJ (by decide) h0) (fJ (fJ ?_ h0) (fJ (fJ ?_ h0) (fJ (fJ ?_ h0) (fJ (NN t) h0)))))
 · rw [List.length_append,show wUint.length=4 from rfl]; omega
 · rw [List.length_append,show wInt.length=3 from rfl]; omega
 · rw [List.length_append,List.length_append,List.length_append,show wText.length=4 from rfl]; simp only [List.length_singleton]; omega
theorem B5:Meets Tryz.prog 16 txFn.sp:=by
 refine aF Tryz.func16 aCF 1 (by rw [Tryz.ntmps16]; decide) (aK zA (aK F7 (aB _))) kS ?_
 rintro av H K ⟨⟨h,rfl⟩,hK⟩
 obtain ⟨_,rfl,t,rfl,hs⟩:=fT h
 have hK:K (tS (mk (dU 6 t))) []:=by
  have:txFn.val [.va (.gs (aP t))]=tA (mk (dU 6 t)):=by simp -dsimp only [go_sem]
  rw [this] at hK; exact hK
 clear h
 have fin:∀ (x:List UInt8) (R:Hp),dU 6 t=x->W.Fin 0 K (tS (mk x)) R:=fun x R h1=>by
  rw [h1] at hK
  exact .z (hK)
 simp (maxSteps:=9^6) -dsimp only [go_sem,UI,QF,aY t]
 refine cL (α:=Nat × List UInt8 × Ty) (fun x=>[(1,.va (.c1 (.pt 0 0))),(2,tS (mk [])),(3,tS (mk x.2.1)),(4,iS .i64 (6 - x.1:Int))])
  (fun x=>[.cells (aP x.2.2) 37])
  (fun x=>x.1<=6/\x.2.1.length + 31 * x.1<=186/\TyOk x.2.2/\dU 6 t=bif dU x.1 x.2.2 == [] then [] else x.2.1 ++ dU x.1 x.2.2)
  (fun x=>x.1) (gT (6,[],t) 1 ⟨by simp,by simp,hs,?_⟩ ?_ ?_) ?_
 · show _=bif dU 6 t == [] then [] else [] ++ dU 6 t
   cases h:dU 6 t == []
   · rfl
   · exact eq_of_beq h
 · simp -dsimp only [go_sem]<;>simp
 · simp -dsimp only [go_sem]<;>simp [aY t]
 rintro ⟨f,out,u⟩ ⟨h1,h2,h3,h4⟩
 simp only at h1 h2 h3 h4
 have hsn:=h3.s
 have hd:(cD u.s).length<=21:=gM hsn.1 hsn.2
 simp (maxSteps:=9^6) -dsimp only [go_sem,aY u]
 have hplen:=wS hsn
 refine ⟨fun hk=>⟨fun hc=>?_,fun hc=>⟨⟨hsn.1,hsn.2⟩,by omega,by omega,by omega,⟨⟨by omega,?_⟩,fun x hx=>cU x⟩,fun x hx=>⟨by rw [cU]; decide,⟨fun c hc=>(BY _ c hc).2,cU _⟩,by rw [cU]; decide,?_⟩⟩⟩,fun hk=>?_⟩
 · refine fin _ _ ?_
   match f,h1,h2,h4,hc with
   | 0,_,_,h4,_=>rw [h4,LH hk]; rfl
   | f + 1,h1,_,h4,hc=>
    rw [show ((6 - ((f + 1:Nat):Int)) == 6)=false from beq_eq_false_iff_ne.2 (by omega),Bool.or_false] at hc
    rw [h4,oG hk,hc]; rfl
 · simp only [Bool.or_eq_false_iff] at hc
   have:=hc.1.2
   rw [bne_eq_false_iff_eq] at this
   omega
 · match f,h1,h2,h4,hc with
   | 0,_,_,_,hc=>simp at hc
   | f + 1,h1,h2,h4,hc=>
    rw [show ((6 - ((f + 1:Nat):Int)) == 6)=false from beq_eq_false_iff_ne.2 (by omega),Bool.or_false] at hc
    rw [oG hk,hc,aH] at h4
    have he:u.e.headD default=x:=by
     cases hu:u.e with
     | nil=>rw [hu] at hx; cases hx
     | cons a r=>rw [hu] at hx; exact aZ hx
    rw [he] at h4
    refine ⟨by omega,?_⟩
    refine aD (f,out ++ pY u.s,x) 1 ⟨by omega,?_,h3.e x (b6 hx),?_⟩ (by simp) ?_ ?_
    · simp only [pY,List.length_append,show wOfs.length=5 from rfl,List.length_cons,List.length_nil] at h2 ⊢
      omega
    · rw [h4]
      cases hq:dU f x == []
      · rw [aH,aH,List.append_assoc]
        rw [show (pY u.s ++ dU f x == [])=false by simp [pY]]
        rfl
      · rw [aO,aO]; rfl
    · simp -dsimp only [go_sem,pY,wOfs]<;>simp [pY,wOfs]
      omega
    · simp -dsimp only [go_sem]<;>simp [aY x]
 · rw [tW hk] at h4
   rw [show C.ty [C.vl (Value.int IntKind.i64 u.k),C.vl (Value.int IntKind.i64 u.s),C.vl (Value.string u.n),C.fz (List.map aP u.e)]=u by rw [<-aY u]; exact g6 u]
   refine ⟨⟨u,(aY u).symm,h3⟩,fun hc=>fin _ _ ?_,fun hc=>⟨by omega,fin _ _ ?_⟩⟩
   · rw [h4,hc]; rfl
   · rw [h4,hc]; rfl
structure EnG (e:En):Prop where
 n:fR (bl e.nm)=true
 p:0 < e.ns.length
 l:e.ns.length=e.vs.length
 m:e.ns.length<=16
 a:∀ n ∈ e.ns,bX (bl n)=true
 b:∀ v ∈ e.vs,0<=v/\v<=127
structure StG (ss:List St) (es:List En) (t:St):Prop where
 n:fR (bl t.nm)=true
 m:t.fs.length<=16
 f:∀ f ∈ t.fs,(1<=f.num/\f.num<=127)/\bX (bl f.nm)=true/\valF ss es f.ty=true
structure ScG (s:Sc):Prop where
 v:1<=s.ver/\s.ver<=999
 l:s.es.length<=16/\s.ss.length<=16
 a:∀ e ∈ s.es,EnG e
 b:∀ t ∈ s.ss,StG s.ss s.es t
theorem NF {e:En} {k:Nat} {n:ByteArray} {v:Int} (h1:e.ns[k]? = some n) (h2:e.vs[k]? = some v) (h:jJ e k=0):bX (bl n)=true/\0<=v/\v<=127:=by
 unfold jJ at h
 rw [h1,h2] at h
 simp only at h
 cases c1:bX (bl n) with
 | false=>rw [c1] at h; simp at h
 | true=>
 rw [c1] at h
 simp only [Bool.not_true,aH] at h
 cases c2:cG (e.ns.take k) n with
 | true=>rw [c2] at h; simp at h
 | false=>
 rw [c2,aH] at h
 cases c3:decide (v < 0) || decide (127 < v) with
 | true=>rw [c3] at h; simp at h
 | false=>
 simp only [Bool.or_eq_false_iff,decide_eq_false_iff_not] at c3
 exact ⟨rfl,by omega,by omega⟩
theorem N6 {e:En} (h:m6 e=0):0 < e.ns.length/\e.ns.length=e.vs.length/\∀ i < e.ns.length,jJ e i=0:=by
 unfold m6 at h
 cases c:decide (e.ns.length=0) || decide (e.ns.length ≠ e.vs.length) with
 | true=>rw [c] at h; simp at h
 | false=>
 rw [c,aH] at h
 simp only [Bool.or_eq_false_iff,decide_eq_false_iff_not,Decidable.not_not] at c
 exact ⟨by omega,c.2,nK (m:=e.ns.length) h⟩
theorem OA {s:Sc} (hf:s.fit) (h:eJ s=0):ScG s:=by
 obtain ⟨_,_,h2,h3,h4,h5,h6,_⟩:=E5 hf h
 obtain ⟨l1,l2,l3,l4⟩:=rU h4
 refine ⟨⟨h5,h6⟩,⟨l1,by omega⟩,fun e he=>?_,fun t ht=>?_⟩
 · obtain ⟨i,hi⟩:=List.mem_iff_getElem?.1 he
   obtain ⟨n1,_,n3⟩:=OY hi (nK h2 i (aU.1 hi).1)
   obtain ⟨g1,g2,g3⟩:=N6 n3
   refine ⟨n1,g1,g2,l3 e he,fun n hn=>?_,fun v hv=>?_⟩
   · obtain ⟨k,hk⟩:=List.mem_iff_getElem?.1 hn
     have hl:=(aU.1 hk).1
     exact (NF hk (a8 (l:=e.vs) (i:=k) (by omega)) (g3 k hl)).1
   · obtain ⟨k,hk⟩:=List.mem_iff_getElem?.1 hv
     have hl:=(aU.1 hk).1
     exact (NF (a8 (l:=e.ns) (i:=k) (by omega)) hk (g3 k (by omega))).2
 · obtain ⟨i,hi⟩:=List.mem_iff_getElem?.1 ht
   obtain ⟨n1,n2⟩:=C5 hi (nK h3 i (aU.1 hi).1)
   exact ⟨(DU n1).1,l4 t ht,fun f hf=>DM n2 f hf⟩
theorem AU {x:List UInt8} (h:fR x=true):bX x=true:=by unfold fR at h; rw [Bool.and_eq_true] at h; exact h.1
def xQ:Nat->List ByteArray->List Int->List UInt8
 | k,n :: ns,v :: vs=>(bif decide (0 < (k:Int)) then [44,32] else []) ++ (bl n ++ ([32,61,32] ++ cD v)) ++ xQ (k + 1) ns vs
 | _,_,_=>[]
def wEnumB:List UInt8:=[101,110,117,109,32]
def wStB:List UInt8:=[115,116,114,117,99,116,32]
def wVerB:List UInt8:=[118,101,114,115,105,111,110,32]
def DC (e:En):List UInt8:=wEnumB ++ (bl e.nm ++ [32,123,32]) ++ (xQ 0 e.ns e.vs ++ [32,125,10])
def rZ (f:Fl):List UInt8:=[32,32] ++ (cD f.num ++ ([32] ++ (bl f.nm ++ ([58,32] ++ dU 6 f.ty)))) ++ ((bif f.opt then [63] else []) ++ [59,10])
def yT (t:St):List UInt8:=wStB ++ (bl t.nm ++ [32,123,10]) ++ (t.fs.flatMap rZ ++ [125,10])
def m7 (s:Sc):List UInt8:=bif eJ s != 0 then [] else wVerB ++ (cD s.ver ++ [59,10]) ++ (s.es.flatMap DC ++ s.ss.flatMap yT)
noncomputable def fmFn:Fun:=rM zF C.sc fun s=>.string (mk (m7 s))
attribute [go_sem] fmFn
theorem NR:∀ (f:Nat) (t:Ty),TyOk t->(dU f t).length<=30 + 31 * f:=fun f=>by
 induction f with
 | zero=>
  intro t ht
  cases h:t.k == 5
  · rw [tW h]; exact wS ht.s
  · rw [LH h]; exact Nat.zero_le _
 | succ f ih=>
  intro t ht
  cases h:t.k == 5
  · rw [tW h]; have:=wS ht.s; omega
  · rw [oG h]
    cases c:decide (t.s < 0) || !(bl t.n == []) || (t.e.length:Int) != 1
    · rw [aH]
      refine fJ (Nat.zero_le _) ?_
      have hd:(cD t.s).length<=21:=gM ht.s.1 ht.s.2
      have hu:TyOk (t.e.headD default):=by
       simp only [Bool.or_eq_false_iff,bne_eq_false_iff_eq] at c
       match he:t.e with
       | []=>rw [he] at c; simp at c
       | a :: r=>exact ht.e a (by rw [he]; exact List.mem_cons_self ..)
      have:=ih _ hu
      simp only [pY,List.length_append,show wOfs.length=5 from rfl,List.length_cons,List.length_nil]
      omega
    · exact Nat.zero_le _
theorem JM (k:Nat) (n:ByteArray) (ns:List ByteArray) (v:Int) (vs:List Int):xQ k (n :: ns) (v :: vs)=(bif decide (0 < (k:Int)) then [44,32] else []) ++ (bl n ++ ([32,61,32] ++ cD v)) ++ xQ (k + 1) ns vs:=rfl
theorem O8:Meets Tryz.prog 10 fmFn.sp:=by
 refine aF Tryz.func10 ZM 1 (by rw [Tryz.ntmps10]; decide) (aK zA (aK B5 (aK HN (aB _)))) kS ?_
 rintro av H K ⟨⟨h,rfl⟩,hK⟩
 obtain ⟨_,rfl,s,rfl,hs⟩:=fT h
 have hK:K (tS (mk (m7 s))) []:=by
  have:fmFn.val [.va (.gs (aR s))]=tA (mk (m7 s)):=by simp -dsimp only [go_sem]
  rw [this] at hK; exact hK
 clear h
 have fin:∀ (x:List UInt8) (R:Hp),m7 s=x->W.Fin 0 K (tS (mk x)) R:=fun x R h1=>by
  rw [h1] at hK
  exact .z (hK)
 simp (maxSteps:=9^6) -dsimp only [go_sem,aR,P4,T8]
 rw [show C.sc [C.vl (Value.int IntKind.i64 s.ver),C.fz (List.map bC s.es),C.fz (List.map aV s.ss)]=s from pU s]
 refine ⟨⟨_,rfl,hs⟩,fun hc=>fin _ _ (by unfold m7; rw [hc]; rfl),fun hc=>?_⟩
 have g:=OA hs (bne_eq_false_iff_eq.1 hc)
 have hfm:m7 s=wVerB ++ (cD s.ver ++ [59,10]) ++ (s.es.flatMap DC ++ s.ss.flatMap yT):=by unfold m7; rw [hc]; rfl
 have hvi:=hs.ok.ver
 have hdv:(cD s.ver).length<=21:=gM hvi.1 hvi.2
 have hl16:=g.l
 refine ⟨⟨hvi.1,hvi.2⟩,by omega,by omega,?_⟩
 refine cL (α:=Nat × List UInt8) (fun z=>[(1,.va (.c1 (.pt 0 0))),(2,tS (mk [])),(3,tS (mk z.2)),(21,.va (.c1 (.fz (s.es.map bC)))),(22,iS .i64 s.es.length),(23,iS .i64 z.1)]) (fun z=>[.cells (aR s) 25])
  (fun z=>z.1<=s.es.length/\m7 s=z.2 ++ ((s.es.drop z.1).flatMap DC ++ s.ss.flatMap yT)/\z.2.length<=40 + 1000 * z.1) (fun z=>s.es.length - z.1) (gT (0,wVerB ++ (cD s.ver ++ [59,10])) 1 ⟨Nat.zero_le _,hfm,?_⟩ ?_ ?_) ?_
 · simp only [List.length_append,show wVerB.length=8 from rfl,List.length_cons,List.length_nil]; omega
 · simp -dsimp only [go_sem,wVerB]<;>simp
 · simp -dsimp only [go_sem,aR]<;>simp
 rintro ⟨i,out⟩ ⟨hi,ho,hol⟩
 simp only at hi ho hol
 rcases cM i s.es.length with hlt | hge
 · have hg:decide ((i:Int) < (s.es.length:Int))=true:=by simp; omega
   obtain ⟨e,he⟩:∃ a,s.es[i]? = some a:=⟨_,a8 hlt⟩
   have ge:=g.a e (b6 he)
   have q1:=bH (row:=bC) he
   have hnl:=jG (AU ge.n)
   have hnl':=ge.m
   have hvl:=ge.l
   rw [List.drop_eq_getElem_cons hlt,show s.es[i]=e from (aU.1 he).2,List.flatMap_cons] at ho
   simp (maxSteps:=9^6) -dsimp only [go_sem,aR,hg,↓q1,bC]
   refine ⟨by omega,by omega,by omega,by omega,?_⟩
   have hg0:=hg
   refine cL (α:=Nat × List UInt8) (fun z=>[(1,.va (.c1 (.pt 0 0))),(2,tS (mk [])),(3,tS (mk z.2)),(21,.va (.c1 (.fz (s.es.map bC)))),(22,iS .i64 s.es.length),(23,iS .i64 i),(5,.va (.c1 (.pt 1 0))),(34,.va (.c1 (.fz (e.ns.map cQ)))),(35,iS .i64 e.ns.length),(36,iS .i64 z.1)]) (fun z=>[.cells (aR s) 25,.cells (bC e) 62])
    (fun z=>z.1<=e.ns.length/\m7 s=z.2 ++ (xQ z.1 (e.ns.drop z.1) (e.vs.drop z.1) ++ ([32,125,10] ++ ((s.es.drop (i + 1)).flatMap DC ++ s.ss.flatMap yT)))/\z.2.length<=100 + 1000 * i + 50 * z.1) (fun z=>e.ns.length - z.1) (gT (0,out ++ (wEnumB ++ (bl e.nm ++ [32,123,32]))) 2 ⟨Nat.zero_le _,?_,?_⟩ ?_ ?_) ?_
   · rw [ho]; simp [DC]
   · simp only [List.length_append,show wEnumB.length=5 from rfl,List.length_cons,List.length_nil]; omega
   · simp -dsimp only [go_sem,wEnumB]<;>simp
   · simp -dsimp only [go_sem,aR,bC]<;>simp
   clear ho hol
   rintro ⟨k,out⟩ ⟨hk,ho,hol⟩
   simp only at hk ho hol
   rcases cM k e.ns.length with hkt | hkg
   · have hg:decide ((k:Int) < (e.ns.length:Int))=true:=by simp; omega
     obtain ⟨n,hn⟩:∃ a,e.ns[k]? = some a:=⟨_,a8 hkt⟩
     obtain ⟨v,hv⟩:∃ a,e.vs[k]? = some a:=⟨_,a8 (by omega)⟩
     have q1:=bH (row:=cQ) hn
     have q2:=bH (row:=iQ) hv
     have hnn:=jG (ge.a n (b6 hn))
     have hvv:=ge.b v (b6 hv)
     have hdl:(cD v).length<=21:=gM (by omega) (by omega)
     rw [List.drop_eq_getElem_cons hkt,show e.ns[k]=n from (aU.1 hn).2,List.drop_eq_getElem_cons (show k < e.vs.length by omega),show e.vs[k]=v from (aU.1 hv).2,JM] at ho
     simp (maxSteps:=9^6) -dsimp only [go_sem,aR,hg,↓q1,↓q2,bC]
     have hE:∀ (o:List UInt8),(k=0->o=out)->(0 < k->o=out ++ [44,32])->m7 s=o ++ (bl n ++ ([32,61,32] ++ cD v)) ++ (xQ (k + 1) (e.ns.drop (k + 1)) (e.vs.drop (k + 1)) ++ ([32,125,10] ++ ((s.es.drop (i + 1)).flatMap DC ++ s.ss.flatMap yT))):=fun o h0 h1=>by
      rw [ho]
      rcases Nat.eq_zero_or_pos k with hz | hz
      · rw [h0 hz,decide_eq_false (show ¬ 0 < (k:Int) by omega)]; simp
      · rw [h1 hz,decide_eq_true (show 0 < (k:Int) by omega)]; simp
     refine ⟨by omega,fun hc=>⟨by omega,by omega,by omega,by omega,by omega,by omega,by omega,?_⟩,fun hc=>⟨by omega,by omega,by omega,by omega,by omega,by omega,?_⟩⟩
     · have hk0:0 < k:=by have:=of_decide_eq_true hc; omega
       refine aD (k + 1,(out ++ [44,32]) ++ (bl n ++ ([32,61,32] ++ cD v))) 2 ⟨hkt,hE _ (fun h=>by omega) fun _=>rfl,?_⟩ (by simp only; omega) ?_ ?_
       · simp only [List.length_append,List.length_cons,List.length_nil]; omega
       · simp -dsimp only [go_sem]<;>simp
       · simp -dsimp only [go_sem,aR,bC]<;>simp
     · have hk0:k=0:=by have:=of_decide_eq_false hc; omega
       refine aD (k + 1,out ++ (bl n ++ ([32,61,32] ++ cD v))) 2 ⟨hkt,hE _ (fun _=>rfl) fun h=>by omega,?_⟩ (by simp only; omega) ?_ ?_
       · simp only [List.length_append,List.length_cons,List.length_nil]; omega
       · simp -dsimp only [go_sem]<;>simp
       · simp -dsimp only [go_sem,aR,bC]<;>simp
   · obtain rfl:k=e.ns.length:=by omega
     have hg:decide ((e.ns.length:Int) < (e.ns.length:Int))=false:=by simp
     simp (maxSteps:=9^6) -dsimp only [go_sem,aR,hg,bC]
     rw [List.drop_length,show xQ e.ns.length [] (e.vs.drop e.ns.length)=[] by unfold xQ; rfl] at ho
     refine ⟨by omega,by omega,?_⟩
     refine aD (i + 1,out ++ [32,125,10]) 1 ⟨hlt,by rw [ho]; simp,?_⟩ (by simp only; omega) ?_ ?_
     · simp only [List.length_append,List.length_cons,List.length_nil]; omega
     · simp -dsimp only [go_sem]<;>simp
     · simp -dsimp only [go_sem,aR,bC]<;>simp
 · obtain rfl:i=s.es.length:=by omega
   have hg:decide ((s.es.length:Int) < (s.es.length:Int))=false:=by simp
   simp (maxSteps:=9^6) -dsimp only [go_sem,aR,hg]
   rw [List.drop_length,List.flatMap_nil,List.nil_append] at ho
   refine cL (α:=Nat × List UInt8) (fun z=>[(1,.va (.c1 (.pt 0 0))),(2,tS (mk [])),(3,tS (mk z.2)),(61,.va (.c1 (.fz (s.ss.map aV)))),(62,iS .i64 s.ss.length),(63,iS .i64 z.1)]) (fun z=>[.cells (aR s) 25])
    (fun z=>z.1<=s.ss.length/\m7 s=z.2 ++ (s.ss.drop z.1).flatMap yT/\z.2.length<=20000 + 10000 * z.1) (fun z=>s.ss.length - z.1) (gT (0,out) 1 ⟨Nat.zero_le _,ho,?_⟩ ?_ ?_) ?_
   · simp only; omega
   · simp -dsimp only [go_sem]<;>simp
   · simp -dsimp only [go_sem,aR]<;>simp
   clear ho hol
   rintro ⟨i,out⟩ ⟨hi,ho,hol⟩
   simp only at hi ho hol
   rcases cM i s.ss.length with hlt | hge
   · have hg:decide ((i:Int) < (s.ss.length:Int))=true:=by simp; omega
     obtain ⟨t,ht⟩:∃ a,s.ss[i]? = some a:=⟨_,a8 hlt⟩
     have gt:=g.b t (b6 ht)
     have hok:=hs.ok.ss t (b6 ht)
     have q1:=bH (row:=aV) ht
     have hnl:=jG (AU gt.n)
     have hml:=gt.m
     rw [List.drop_eq_getElem_cons hlt,show s.ss[i]=t from (aU.1 ht).2,List.flatMap_cons] at ho
     simp (maxSteps:=9^6) -dsimp only [go_sem,aR,hg,↓q1,aV]
     refine ⟨by omega,by omega,by omega,by omega,?_⟩
     refine cL (α:=Nat × List UInt8) (fun z=>[(1,.va (.c1 (.pt 0 0))),(2,tS (mk [])),(3,tS (mk z.2)),(61,.va (.c1 (.fz (s.ss.map aV)))),(62,iS .i64 s.ss.length),(63,iS .i64 i),(9,.va (.c1 (.pt 1 0))),(74,.va (.c1 (.fz (t.fs.map bU)))),(75,iS .i64 t.fs.length),(76,iS .i64 z.1)]) (fun z=>[.cells (aR s) 25,.cells (aV t) 56])
      (fun z=>z.1<=t.fs.length/\m7 s=z.2 ++ ((t.fs.drop z.1).flatMap rZ ++ ([125,10] ++ (s.ss.drop (i + 1)).flatMap yT))/\z.2.length<=20100 + 10000 * i + 500 * z.1) (fun z=>t.fs.length - z.1) (gT (0,out ++ (wStB ++ (bl t.nm ++ [32,123,10]))) 2 ⟨Nat.zero_le _,?_,?_⟩ ?_ ?_) ?_
     · rw [ho]; simp [yT]
     · simp only [List.length_append,show wStB.length=7 from rfl,List.length_cons,List.length_nil]; omega
     · simp -dsimp only [go_sem,wStB]<;>simp
     · simp -dsimp only [go_sem,aR,aV]<;>simp
     clear ho hol
     rintro ⟨k,out⟩ ⟨hk,ho,hol⟩
     simp only at hk ho hol
     rcases cM k t.fs.length with hkt | hkg
     · have hg:decide ((k:Int) < (t.fs.length:Int))=true:=by simp; omega
       obtain ⟨f,hf⟩:∃ a,t.fs[k]? = some a:=⟨_,a8 hkt⟩
       have q1:=bH (row:=bU) hf
       obtain ⟨gf1,gf2,gf3⟩:=gt.f f (b6 hf)
       have hfo:=hok.fs f (b6 hf)
       have hnn:=jG gf2
       have hdl:(cD f.num).length<=21:=gM (by omega) (by omega)
       have htl:=NR 6 f.ty hfo.ty
       rw [List.drop_eq_getElem_cons hkt,show t.fs[k]=f from (aU.1 hf).2,List.flatMap_cons] at ho
       simp (maxSteps:=9^6) -dsimp only [go_sem,aR,hg,↓q1,aV,bU,mM]
       refine ⟨by omega,by omega,by omega,by omega,by omega,by omega,⟨_,rfl,hfo.ty⟩,by omega,by omega,fun hc=>⟨by omega,by omega,by omega,?_⟩,fun hc=>⟨by omega,by omega,?_⟩⟩
       · refine aD (k + 1,out ++ rZ f) 2 ⟨hkt,by rw [ho]; simp,?_⟩ (by simp only; omega) ?_ ?_
         · unfold rZ; rw [hc]; simp only [aO,List.length_append,List.length_cons,List.length_nil]; omega
         · simp -dsimp only [go_sem,rZ,hc]<;>simp [rZ,hc]
         · simp -dsimp only [go_sem,aR,aV]<;>simp
       · refine aD (k + 1,out ++ rZ f) 2 ⟨hkt,by rw [ho]; simp,?_⟩ (by simp only; omega) ?_ ?_
         · unfold rZ; rw [hc]; simp only [aH,List.length_append,List.length_cons,List.length_nil]; omega
         · simp -dsimp only [go_sem,rZ,hc]<;>simp [rZ,hc]
         · simp -dsimp only [go_sem,aR,aV]<;>simp
     · obtain rfl:k=t.fs.length:=by omega
       have hg:decide ((t.fs.length:Int) < (t.fs.length:Int))=false:=by simp
       simp (maxSteps:=9^6) -dsimp only [go_sem,aR,hg,aV]
       rw [List.drop_length,List.flatMap_nil,List.nil_append] at ho
       refine ⟨by omega,by omega,?_⟩
       refine aD (i + 1,out ++ [125,10]) 1 ⟨hlt,by rw [ho]; simp,?_⟩ (by simp only; omega) ?_ ?_
       · simp only [List.length_append,List.length_cons,List.length_nil]; omega
       · simp -dsimp only [go_sem]<;>simp
       · simp -dsimp only [go_sem,aR,aV]<;>simp
   · obtain rfl:i=s.ss.length:=by omega
     have hg:decide ((s.ss.length:Int) < (s.ss.length:Int))=false:=by simp
     simp (maxSteps:=9^6) -dsimp only [go_sem,aR,hg]
     refine fin _ _ ?_
     rw [ho,List.drop_length,List.flatMap_nil,List.append_nil]
theorem uL (l:List UInt8):fR l=(bX l && kC l):=by
 unfold fR
 cases l with
 | nil=>rfl
 | cons c r=>
  have e1:decide (65<=(c.toNat:Int))=decide (65<=c):=decide_eq_decide.2 (by rw [UInt8.le_iff_toNat_le]; exact Int.ofNat_le (m:=65))
  have e2:decide ((c.toNat:Int)<=90)=decide (c<=90):=decide_eq_decide.2 (show ((c.toNat:Int)<=((90:Nat):Int)) ↔ c<=90 from Int.ofNat_le.trans (UInt8.le_iff_toNat_le (b:=90)).symm)
  simp only [e1,e2,kC]
theorem NY:Meets Tryz.prog 96 (tL fun l=>.bool (fR l)).sp:=by
 refine aF Tryz.func96 ZD 1 (by rw [Tryz.ntmps96]; decide) (aB _) p6 ?_
 rintro xs H K ⟨⟨h,rfl⟩,hK⟩
 obtain ⟨s,rfl⟩:=gY h
 have hK':K (bS (fR (bl s))) []:=hK
 clear hK h
 have fin:∀ (x:Bool) (R:Hp),fR (bl s)=x->W.Fin 0 K (bS x) R:=fun x R h=>by
  rw [h] at hK'
  exact .z (hK')
 simp (maxSteps:=9^6) -dsimp only [go_sem,S6,R9]
 generalize hg:(decide (((bl s).length:Int) < 1) || decide (16 < ((bl s).length:Int)))=g
 cases g with
 | true=>
  have hf:fR (bl s)=false:=by
   rw [uL]
   rw [Bool.or_eq_true] at hg
   rcases hg with h | h
   · have:=of_decide_eq_true h
     have:bl s=[]:=List.eq_nil_of_length_eq_zero (by omega)
     rw [this]; rfl
   · have:=of_decide_eq_true h
     rw [pP (by omega)]; rfl
  exact ⟨fun h=>(by cases h),fun c _=>⟨fun h=>(by simp at h),fun c1 _=>⟨fun _=>fin _ _ hf,fun h=>(by simp at h)⟩⟩⟩
 | false=>
 simp only [Bool.or_eq_false_iff,decide_eq_false_iff_not] at hg
 refine ⟨fun _=>by omega,fun c hc=>?_⟩
 have hc:=hc rfl
 have hcap:kC (bl s)=(decide (65<=c) && decide (c<=90)):=by
  cases hl:bl s with
  | nil=>rw [hl] at hc; cases hc
  | cons d r=>rw [hl] at hc; obtain rfl:=aZ hc; rfl
 have e1:decide ((c.toNat:Int) < 65)=!decide (65<=c):=by
  have:(65<=c) ↔ 65<=c.toNat:=UInt8.le_iff_toNat_le
  rw [Bool.eq_iff_iff]; simp [this]; omega
 have e2:decide (90 < (c.toNat:Int))=!decide (c<=90):=by
  have:(c<=90) ↔ c.toNat<=90:=UInt8.le_iff_toNat_le
  rw [Bool.eq_iff_iff]; simp [this]; omega
 refine ⟨fun _=>by omega,fun c1 hc1=>⟨fun h=>fin _ _ ?_,fun h=>?_⟩⟩
 · rw [uL,hcap]
   rw [e1,Bool.false_or] at h hc1
   cases h65:decide (65<=c)
   · simp
   · rw [h65] at h hc1
     obtain rfl:c=c1:=by rw [hc] at hc1; exact aZ (hc1 rfl)
     rw [e2] at h
     simp at h
     simp [h]
 have hcc:kC (bl s)=true:=by
  rw [hcap]
  rw [e1,Bool.false_or] at h hc1
  cases h65:decide (65<=c)
  · rw [h65] at h; simp at h
  · rw [h65] at h hc1
    obtain rfl:c=c1:=by rw [hc] at hc1; exact aZ (hc1 rfl)
    rw [e2] at h
    simp at h
    simp [h]
 have hlet:c8 c.toNat=true:=by
  rw [hcap,Bool.and_eq_true] at hcc
  have h1:65<=c.toNat:=UInt8.le_iff_toNat_le.1 (of_decide_eq_true hcc.1)
  have h2:c.toNat<=90:=UInt8.le_iff_toNat_le.1 (of_decide_eq_true hcc.2)
  unfold c8
  simp; omega
 have htn:fR (bl s)=bX (bl s):=by rw [uL,hcc,Bool.and_true]
 clear h hc1
 refine a7 (α:=Nat) (fun i=>[(0,tS s),(3,iS .i64 i)]) (fun i=>[]) (fun i=>i<=(bl s).length/\∀ (j:Nat) (x:UInt8),j < i->(bl s)[j]? = some x->bJ x=true) (fun i=>(bl s).length - i) 0 0 ⟨by omega,by omega⟩ ?_ ?_ ?_
 · simp -dsimp only [go_sem]; simp
 · simp [go_sem]
 rintro i ⟨hi,ha⟩
 rcases cM i (bl s).length with hlt | hge
 · have hgd:decide ((i:Int) < ((bl s).length:Int))=true:=by simp; omega
   obtain ⟨d,hd⟩:∃ d,(bl s)[i]? = some d:=⟨_,a8 hlt⟩
   simp (maxSteps:=9^6) -dsimp only [go_sem,hgd]
   refine ⟨by omega,fun x hx=>⟨fun h1 h2=>by rw [h1,h2]; rfl,fun h1 h2=>by rw [h1,h2]; rfl,fun h=>fin _ _ (by rw [htn]; exact EA hx h),fun h=>⟨by omega,?_⟩⟩⟩
   refine aD (i + 1) 0 ⟨by omega,fun j y hj hy=>?_⟩ (by omega) ?_ rfl
   · rcases cM j i with h4 | h4
     · exact ha j y h4 hy
     · obtain rfl:j=i:=by omega
       rw [hx] at hy; obtain rfl:=aZ hy
       rw [Bool.not_eq_false'] at h
       exact h
   · simp -dsimp only [go_sem]<;>simp
 · have hgd:decide ((i:Int) < ((bl s).length:Int))=false:=by simp; omega
   simp (maxSteps:=9^6) -dsimp only [go_sem,hgd]
   refine fin _ _ ?_
   rw [htn]
   exact yR hc (by omega) hlet fun j x hx=>ha j x (by have:=(aU.1 hx).1; omega) hx
theorem AJ {ts:List Tk} {z:Fs} (h:Tks ts) (hn:z.n < ts.length):eV true ts z=(!z.bad && ((aN ts z.n).k == 1 && fR (aN ts z.n).x)):=by
 unfold eV
 cases hb:z.bad
 · cases hk:(aN ts z.n).k == 1
   · rfl
   · have g:=h.g _ (lV hn)
     have hk:=eq_of_beq hk
     have hnm:bX (aN ts z.n).x=true:=by
      have:=g.o (by rw [hk]; decide)
      rw [hk] at this
      unfold MW at this
      simp at this
      exact this.2
     rw [uL,hnm]
     rfl
 · rfl
theorem XS:Meets Tryz.prog 94 SA:=by
 refine aF Tryz.func94 Z1 1 (by rw [Tryz.ntmps94]; decide) (aA oS (aK NY (aB _))) (fun av H K h=>by obtain ⟨_,_,rfl,_⟩:=h; rfl) ?_
 rintro av H K ⟨ts,⟨b,a,n⟩,rfl,rfl,ht,hn,hK⟩
 have hB:=AJ (z:=⟨b,a,n⟩) ht hn
 simp only at hn hB
 have hle:=ht.e.le
 have q1:=bH (row:=cI) (dA hn)
 have hK:K (tS (bZ true ts ⟨b,a,n⟩)) (d9 ts (bM true ts ⟨b,a,n⟩)):=hK
 unfold bZ bM at hK
 cases b with
 | true=>
  have hb:=nB a.toNat
  rw [hB] at hK
  simp (maxSteps:=9^6) -dsimp only [go_sem,CM,AI,pJ,hb]
  refine fQ (z:=⟨true,a,n⟩) ht hn ?_
  simp (maxSteps:=9^6) -dsimp only [go_sem]
  exact .done hK
 | false=>
  cases hk:(aN ts n).k == 1 with
  | false=>
   rw [hB,hk] at hK
   simp (maxSteps:=9^6) -dsimp only [go_sem,CM,AI,kD,kP,↓q1,cI,hk]
   refine ⟨by omega,fQ (z:=⟨false,a,n⟩) ht hn ?_⟩
   simp (maxSteps:=9^6) -dsimp only [go_sem]
   exact .done hK
  | true=>
   cases hc:fR (aN ts n).x with
   | false=>
    rw [hB,hk,hc] at hK
    simp (maxSteps:=9^6) -dsimp only [go_sem,CM,AI,kD,kP,↓q1,cI,hk,hc]
    refine ⟨by omega,by omega,fQ (z:=⟨false,a,n⟩) ht hn ?_⟩
    simp (maxSteps:=9^6) -dsimp only [go_sem]
    exact .done hK
   | true=>
    rw [hB,hk,hc] at hK
    have hx:=JU ht hn (eq_of_beq hk) (by decide)
    simp (maxSteps:=9^6) -dsimp only [go_sem,CM,AI,kD,kP,↓q1,cI,hk,hc]
    refine ⟨by omega,by omega,by omega,by omega,by omega,fun x hx'=>.done ?_⟩
    rw [show ((n:Int) + 1 - 1).toNat=n by omega,dA hn] at hx'
    obtain rfl:=aZ hx'
    rw [hx.1] at hK
    exact hK
def F3:PC:=.seq (.gh (.reg [.v 21 4,.v 22 7,.q 23 (.bin .eql true (.t 21) (.t 22)),.v 24 23,⟨some 25,(some (24,true)),.q (.mv (.t 5))⟩,⟨some 26,(some (24,true)),.q (.mv (.t 8))⟩,⟨some 27,(some (24,true)),.q (.bin .eql true (.t 25) (.t 26))⟩,.a 28 (.pick (.t 24) (.t 27) (.k (.bool false))),.v 29 28,⟨some 30,(some (29,true)),.l (.ldn 4 (.t 3))⟩,⟨some 31,(some (29,true)),.l (.ldn 4 (.t 6))⟩,⟨some 32,(some (29,true)),.cq 19 [(.t 30),(.t 31)]⟩,.a 33 (.pick (.t 29) (.t 32) (.k (.bool false))),.v 34 33,⟨some 35,(some (34,true)),.q (.mv (.t 4))⟩,⟨some 36,(some (34,true)),.q (.bin .neq true (.t 35) (.i 0))⟩,⟨some 37,(some (34,true)),.q (.mv (.t 36))⟩,⟨some 38,(some (37,false)),.l (.ldn 4 (.t 3))⟩,⟨some 39,(some (37,false)),.cq 16 [(.t 38)]⟩,⟨some 40,(some (37,false)),.q (.bin .neq true (.t 39) (.k (.string (mk []))))⟩,⟨some 41,(some (34,true)),.pick (.t 37) (.k (.bool true)) (.t 40)⟩,.a 42 (.pick (.t 34) (.t 41) (.k (.bool false))),.v 43 42,⟨some 44,(some (43,true)),.cq 11 []⟩,.a 45 (.pick (.t 43) (.t 44) (.k (.bool false))),.v 2 45])) .ret
@[go_sem ↓] theorem aCM:bT F3:=bW _
def F5:PC:=.seq (.gh (.reg [.v 16 0,.a 17 (.cl 21 [(.t 16)] []),.v 15 17,.q 18 (.ex (.t 15) 0),.q 19 (.ex (.t 15) 1),.q 20 (.ex (.t 15) 2),.e 6 (.al (.agg #[(.int .i64 0),(.int .i64 0),(.string (mk [])),(.slice none 0 0)]) 37),.s (.st 4 (.t 6) (.t 18)),.v 7 19,.v 8 20])) (F3)
@[go_sem ↓] theorem aDU:bT F5:=bW _
def YB:PC:=.seq (.reg [.q 2 (.mv (.k (.bool false)))]) (.seq (.reg [.v 10 0,.a 11 (.cl 18 [(.t 10)] []),.v 9 11,.q 12 (.ex (.t 9) 0),.q 13 (.ex (.t 9) 1),.q 14 (.ex (.t 9) 2),.e 3 (.al (.agg #[(.int .i64 0),(.int .i64 0),(.string (mk [])),(.slice none 0 0)]) 37),.s (.st 4 (.t 3) (.t 12)),.v 4 13,.v 5 14]) (F5))
def YR:List RV:=[.mv (.t 2)]
theorem ok7:aT Tryz.prog true ⟨fun r k=>if r=3/\k=11 then .q else if r=3/\k=18 then .q else if r=3/\k=23 then .q else .own [],fun r=>[2,3].contains r⟩ Tryz.f7=some (YB,YR):=by kernel_rfl
def B4:PC:=.seq (.gh (.reg [.q 52 (.fa 2 (.t 1)),.l 53 (.ld1 (.t 52)),.l 54 (.ia 2 (.t 53) (.i 0)),.q 55 (.fa 1 (.t 54)),.l 56 (.ld1 (.t 55)),.l 57 (.ia 7 (.t 56) (.i 0)),.q 58 (.fa 2 (.t 57)),.q 59 (.fa 0 (.t 58)),.l 60 (.ld1 (.t 59)),.q 61 (.bin .eql true (.t 60) (.i 7)),.v 62 61,⟨some 63,(some (62,true)),.l (.ldn 4 (.t 7))⟩,⟨some 64,(some (62,true)),.cq 16 [(.t 63)]⟩,⟨some 65,(some (62,true)),.q (.bin .eql true (.t 64) (.k (.string (mk [108,105,115,116,91,52,93,32,111,102,32,116,101,120,116,91,49,54,93]))))⟩,.a 66 (.pick (.t 62) (.t 65) (.k (.bool false))),.v 67 66,⟨some 68,(some (67,true)),.l (.ldn 3 (.t 1))⟩,⟨some 69,(some (67,true)),.cq 10 [(.t 68)]⟩,⟨some 70,(some (67,true)),.q (.bin .eql true (.t 69) (.k (.string (mk [118,101,114,115,105,111,110,32,50,59,10,101,110,117,109,32,66,32,123,32,99,32,61,32,48,32,125,10,115,116,114,117,99,116,32,65,32,123,10,32,32,49,32,98,58,32,66,59,10,125,10]))))⟩,.a 71 (.pick (.t 67) (.t 70) (.k (.bool false))),.v 0 71])) .ret
@[go_sem ↓] theorem aAY:bT B4:=bW _
def BT:PC:=.seq (.gh (.reg [.q 49 (.bd [(.int .i64 0),(.int .i64 0),(.string (mk [])),(.slice none 0 0)] [(0,1,(.i 4)),(1,1,(.i 16))]),.e 50 (.bsl 37 4 [(.t 49)]),.q 51 (.bd [(.int .i64 0),(.int .i64 0),(.string (mk [])),(.slice none 0 0)] [(0,1,(.i 5)),(1,1,(.i 4)),(3,1,(.t 50))]),.e 7 (.al (.agg #[(.int .i64 0),(.int .i64 0),(.string (mk [])),(.slice none 0 0)]) 37),.s (.st 4 (.t 7) (.t 51))])) (B4)
@[go_sem ↓] theorem aCD:bT BT:=bW _
def B8:PC:=.seq (.seq (.gh (.reg [.v 18 2,.q 19 (.bin .neq true (.t 18) (.i 0)),.v 20 19,⟨some 21,(some (20,false)),.q (.mv (.t 5))⟩,⟨some 22,(some (20,false)),.q (.bin .neq true (.t 21) (.i 2))⟩,.a 23 (.pick (.t 20) (.k (.bool true)) (.t 22)),.v 24 23,⟨some 25,(some (24,false)),.q (.mv (.t 6))⟩,⟨some 26,(some (24,false)),.q (.bin .neq true (.t 25) (.i 9))⟩,.a 27 (.pick (.t 24) (.k (.bool true)) (.t 26)),.v 28 27,⟨some 29,(some (28,false)),.q (.fa 2 (.t 1))⟩,⟨some 30,(some (28,false)),.l (.ld1 (.t 29))⟩,⟨some 31,(some (28,false)),.q (.lnL (.t 30))⟩,⟨some 32,(some (28,false)),.q (.bin .neq true (.t 31) (.i 1))⟩,.a 33 (.pick (.t 28) (.k (.bool true)) (.t 32)),.v 34 33,⟨some 35,(some (34,false)),.q (.fa 2 (.t 1))⟩,⟨some 36,(some (34,false)),.l (.ld1 (.t 35))⟩,⟨some 37,(some (34,false)),.l (.ia 2 (.t 36) (.i 0))⟩,⟨some 38,(some (34,false)),.q (.fa 1 (.t 37))⟩,⟨some 39,(some (34,false)),.l (.ld1 (.t 38))⟩,⟨some 40,(some (34,false)),.q (.lnL (.t 39))⟩,⟨some 41,(some (34,false)),.q (.bin .neq true (.t 40) (.i 1))⟩,.a 42 (.pick (.t 34) (.k (.bool true)) (.t 41)),.v 43 42,⟨some 44,(some (43,false)),.q (.fa 1 (.t 1))⟩,⟨some 45,(some (43,false)),.l (.ld1 (.t 44))⟩,⟨some 46,(some (43,false)),.q (.lnL (.t 45))⟩,⟨some 47,(some (43,false)),.q (.bin .neq true (.t 46) (.i 1))⟩,.a 48 (.pick (.t 43) (.k (.bool true)) (.t 47))])) (.cond (.t 48) (.seq (.reg [.q 0 (.mv (.k (.bool false)))]) .ret) .skip)) (BT)
@[go_sem ↓] theorem aA1:bT B8:=bW _
def zP:PC:=.seq (.gh (.reg [.a 14 (.cl 12 [(.k (.string (mk [118,101,114,115,105,111,110,32,49])))] []),.v 13 14,.q 15 (.ex (.t 13) 0),.q 16 (.ex (.t 13) 1),.q 17 (.ex (.t 13) 2),.e 4 (.al (.agg #[(.int .i64 0),(.slice none 0 0),(.slice none 0 0)]) 25),.s (.st 3 (.t 4) (.t 15)),.v 5 16,.v 6 17])) (B8)
@[go_sem ↓] theorem aAW:bT zP:=bW _
def SX:PC:=.seq (.reg [.q 0 (.mv (.k (.bool false)))]) (.seq (.reg [.a 9 (.cl 12 [(.k (.string (mk [118,101,114,115,105,111,110,32,50,59,32,115,116,114,117,99,116,32,65,32,123,32,49,32,98,58,32,66,59,32,125,32,101,110,117,109,32,66,32,123,32,99,32,61,32,48,32,125])))] []),.v 8 9,.q 10 (.ex (.t 8) 0),.q 11 (.ex (.t 8) 1),.q 12 (.ex (.t 8) 2),.e 1 (.al (.agg #[(.int .i64 0),(.slice none 0 0),(.slice none 0 0)]) 25),.s (.st 3 (.t 1) (.t 10)),.v 2 11,.v 3 12]) (zP))
def P8:List RV:=[.mv (.t 0)]
theorem aBU:aT Tryz.prog true ⟨fun r k=>if r=6/\k=12 then .q else if r=6/\k=17 then .q else .own [],fun r=>[2,3,5,6].contains r⟩ Tryz.f11=some (SX,P8):=by kernel_rfl
mutual
def YA:Ty->Ty
 | .mk k s n e=>.mk (bif k == 7 then 6 else k) s n (QS e)
def QS:List Ty->List Ty
 | []=>[]
 | u :: r=>YA u :: QS r
end
abbrev Lay:Type:=List (List UInt8 × Tx)
abbrev NC:Type:=Int × List UInt8 × Int
def CS (l:Lay):List NC:=l.map fun u=>tri u.2
def CW:PC:=.gh (.ord  [.q (.v 53 8),.q (.v 54 8),.q (.q 55 (.nc (.t 54))),.q (.q 56 (.fa 3 (.t 55))),.q (.q 57 (.fa 1 (.t 56))),.q (.l 58 (.ld1 (.t 57))),.q (.v 59 8),.m (.a 60 (.cl 39 [(.t 59)] [2,1,3,4])),.rc (.v 53 8),.rc (.v 54 8),.rc (.q 55 (.nc (.t 54))),.rc (.q 56 (.fa 3 (.t 55))),.rc (.q 57 (.fa 1 (.t 56))),.rc (.l 58 (.ld1 (.t 57))),.m (.e 61 (.bsl 62 3 [(.t 60)])),.rc (.v 53 8),.rc (.v 54 8),.rc (.q 55 (.nc (.t 54))),.rc (.q 56 (.fa 3 (.t 55))),.rc (.q 57 (.fa 1 (.t 56))),.rc (.l 58 (.ld1 (.t 57))),.m (.e 62 (.ap 62 3 64 (.t 58) (.t 61))),.rc (.v 53 8),.q (.q 63 (.nc (.t 53))),.q (.q 64 (.fa 3 (.t 63))),.q (.q 65 (.fa 1 (.t 64))),.m (.s (.st 1 (.t 65) (.t 62)))])
@[go_sem ↓] theorem XK:bT CW:=bW _
def BJ:PC:=.gh (.ord  [.q (.v 69 8),.q (.v 70 8),.q (.q 71 (.nc (.t 70))),.q (.q 72 (.fa 3 (.t 71))),.q (.q 73 (.fa 2 (.t 72))),.q (.l 74 (.ld1 (.t 73))),.q (.v 75 8),.m (.a 76 (.cl 40 [(.t 75)] [2,1,3,4])),.rc (.v 69 8),.rc (.v 70 8),.rc (.q 71 (.nc (.t 70))),.rc (.q 72 (.fa 3 (.t 71))),.rc (.q 73 (.fa 2 (.t 72))),.rc (.l 74 (.ld1 (.t 73))),.m (.e 77 (.bsl 56 2 [(.t 76)])),.rc (.v 69 8),.rc (.v 70 8),.rc (.q 71 (.nc (.t 70))),.rc (.q 72 (.fa 3 (.t 71))),.rc (.q 73 (.fa 2 (.t 72))),.rc (.l 74 (.ld1 (.t 73))),.m (.e 78 (.ap 56 2 40 (.t 74) (.t 77))),.rc (.v 69 8),.q (.q 79 (.nc (.t 69))),.q (.q 80 (.fa 3 (.t 79))),.q (.q 81 (.fa 2 (.t 80))),.m (.s (.st 1 (.t 81) (.t 78)))])
@[go_sem ↓] theorem XG:bT BJ:=bW _
def BE:PC:=.gh (.reg [.v 48 8,.a 49 (.cl 35 [(.t 48)] [2,1,3,4])])
@[go_sem ↓] theorem VJ:bT BE:=bW _
def lS:PC:=.seq (.seq (.gh (.reg [.v 93 8,.q 94 (.nc (.t 93)),.q 95 (.fa 3 (.t 94)),.l 96 (.ldn 3 (.t 95)),.a 97 (.cq 31 [(.t 96)]),.v 9 97])) (.seq (.reg [.v 98 9,.q 99 (.bin .neq true (.t 98) (.i 0))]) (.cond (.t 99) (.seq (.reg [.q 100 (.bd [(.int .i64 0),(.slice none 0 0),(.slice none 0 0)] []),.v 101 9,.s (.st 3 (.t 2) (.t 100)),.v 3 101,.q 4 (.mv (.i 0))]) .ret) .skip))) (.seq (.reg [.v 102 8,.q 103 (.nc (.t 102)),.q 104 (.fa 3 (.t 103)),.l 105 (.ldn 3 (.t 104)),.s (.st 3 (.t 2) (.t 105)),.q 3 (.mv (.i 0)),.q 4 (.mv (.i 0))]) .ret)
@[go_sem ↓] theorem V3:bT lS:=bW _
def AN:PC:=.seq (.seq (.gh (.reg [.v 82 8,.q 83 (.nc (.t 82)),.q 84 (.fa 1 (.t 83)),.l 85 (.ld1 (.t 84))])) (.cond (.t 85) (.seq (.ord  [.q (.q 86 (.bd [(.int .i64 0),(.slice none 0 0),(.slice none 0 0)] [])),.q (.v 87 8),.q (.q 88 (.nc (.t 87))),.q (.q 89 (.fa 2 (.t 88))),.q (.l 90 (.ld1 (.t 89))),.m (.s (.st 3 (.t 2) (.t 86))),.rc (.v 87 8),.rc (.q 88 (.nc (.t 87))),.rc (.q 89 (.fa 2 (.t 88))),.rc (.l 90 (.ld1 (.t 89))),.m (.q 3 (.mv (.i 2))),.rc (.v 87 8),.rc (.q 88 (.nc (.t 87))),.rc (.q 89 (.fa 2 (.t 88))),.rc (.l 90 (.ld1 (.t 89))),.m (.v 4 90)]) .ret) .skip)) (.seq (.reg [.v 91 8,.a 92 (.cl 41 [(.t 91)] [0])]) (lS))
@[go_sem ↓] theorem XC:bT AN:=bW _
def EK:PC:=.seq (.gh (.reg [.v 35 8,.a 36 (.cl 37 [(.t 35),(.k (.string (mk [59])))] [2,1,3,4])])) (.seq (.block 0 (.loop (.seq (.seq (.reg [.v 37 8,.q 38 (.nc (.t 37)),.q 39 (.fa 1 (.t 38)),.l 40 (.ld1 (.t 39)),.q 41 (.not (.t 40)),.v 42 41,⟨some 43,(some (42,true)),.q (.mv (.t 5))⟩,⟨some 44,(some (42,true)),.cl 38 [(.t 43)] [1]⟩,⟨some 45,(some (42,true)),.q (.fld1 0 (.t 44))⟩,⟨some 46,(some (42,true)),.q (.bin .neq true (.t 45) (.i 0))⟩,.a 47 (.pick (.t 42) (.t 46) (.k (.bool false)))]) (.cond (.t 47) .skip (.exit 0))) (.block 1 (.block 2 (.seq (.reg [.v 51 8,.a 52 (.cl 34 [(.t 51),(.k (.string (mk [101,110,117,109])))] [2,1,3,4]),.v 50 52]) (.cond (.t 50) (CW) (.seq (.reg [.v 67 8,.a 68 (.cl 34 [(.t 67),(.k (.string (mk [115,116,114,117,99,116])))] [2,1,3,4]),.v 66 68]) (.cond (.t 66) (BJ) (BE)))))))))) (AN))
@[go_sem ↓] theorem Y0:bT EK:=bW _
def DN:PC:=.seq (.gh (.reg [.v 29 8,.v 30 8,.a 31 (.cl 36 [(.t 30),(.k (.bool false))] [2,1,3,4]),.q 32 (.nc (.t 29)),.q 33 (.fa 3 (.t 32)),.q 34 (.fa 0 (.t 33)),.s (.st 1 (.t 34) (.t 31))])) (EK)
@[go_sem ↓] theorem YN:bT DN:=bW _
def EG:PC:=.seq (.seq (.gh (.reg [.v 24 8,.a 25 (.cl 34 [(.t 24),(.k (.string (mk [118,101,114,115,105,111,110])))] [2,1,3,4]),.q 26 (.not (.t 25))])) (.cond (.t 26) (.reg [.v 27 8,.a 28 (.cl 35 [(.t 27)] [2,1,3,4])]) .skip)) (DN)
@[go_sem ↓] theorem X9:bT EG:=bW _
def MO:PC:=.seq (.reg [.e 2 (.al (.agg #[(.int .i64 0),(.slice none 0 0),(.slice none 0 0)]) 25),.q 3 (.mv (.i 0)),.q 4 (.mv (.i 0))]) (.seq (.reg [.v 11 0,.a 12 (.cl 33 [(.t 11)] []),.v 10 12,.q 13 (.ex (.t 10) 0),.q 14 (.ex (.t 10) 1),.q 15 (.ex (.t 10) 2),.v 5 13,.v 6 14,.v 7 15]) (.seq (.seq (.reg [.v 16 6,.q 17 (.bin .neq true (.t 16) (.i 0))]) (.cond (.t 17) (.seq (.reg [.q 18 (.bd [(.int .i64 0),(.slice none 0 0),(.slice none 0 0)] []),.v 19 6,.v 20 7,.s (.st 3 (.t 2) (.t 18)),.v 3 19,.v 4 20]) .ret) .skip)) (.seq (.reg [.v 21 5,.q 22 (.bd [(.pointer none),(.bool false),(.int .i64 0),(.int .i64 0),(.slice none 0 0),(.slice none 0 0)] [(0,1,(.t 21))]),.e 23 (.bx 70 (.t 22)),.v 8 23]) (EG))))
def jR:List RV:=[.ld (.ldn 3 (.t 2)),.mv (.t 3),.mv (.t 4)]
theorem VK:aT Tryz.prog true ⟨fun r k=>if r=5/\k=1 then .own [2,1,3,4] else if r=6/\k=1 then .own [2,1,3,4] else if r=7/\k=2 then .own [2,1,3,4] else if r=8/\k=1 then .own [2,1,3,4] else if r=9/\k=7 then .own [1] else if r=11/\k=1 then .own [2,1,3,4] else if r=12/\k=7 then .own [2,1,3,4] else if r=13/\k=1 then .own [2,1,3,4] else if r=14/\k=7 then .own [2,1,3,4] else if r=10/\k=1 then .own [2,1,3,4] else if r=17/\k=1 then .own [0] else if r=18/\k=4 then .q else .own [],fun r=>[5,7,8,15,18,10,12,14].contains r⟩ Tryz.f12=some (MO,jR):=by kernel_rfl
def pG:PC:=.gh (.ord  [.q (.v 53 8),.q (.v 54 8),.q (.q 55 (.nc (.t 54))),.q (.q 56 (.fa 3 (.t 55))),.q (.q 57 (.fa 1 (.t 56))),.q (.l 58 (.ld1 (.t 57))),.q (.v 59 8),.m (.a 60 (.cl 39 [(.t 59)] [2,1,3,4])),.rc (.v 53 8),.rc (.v 54 8),.rc (.q 55 (.nc (.t 54))),.rc (.q 56 (.fa 3 (.t 55))),.rc (.q 57 (.fa 1 (.t 56))),.rc (.l 58 (.ld1 (.t 57))),.m (.e 61 (.bsl 62 3 [(.t 60)])),.rc (.v 53 8),.rc (.v 54 8),.rc (.q 55 (.nc (.t 54))),.rc (.q 56 (.fa 3 (.t 55))),.rc (.q 57 (.fa 1 (.t 56))),.rc (.l 58 (.ld1 (.t 57))),.m (.e 62 (.ap 62 3 64 (.t 58) (.t 61))),.rc (.v 53 8),.q (.q 63 (.nc (.t 53))),.q (.q 64 (.fa 3 (.t 63))),.q (.q 65 (.fa 1 (.t 64))),.m (.s (.st 1 (.t 65) (.t 62)))])
@[go_sem ↓] theorem VC:bT pG:=bW _
def pE:PC:=.gh (.ord  [.q (.v 69 8),.q (.v 70 8),.q (.q 71 (.nc (.t 70))),.q (.q 72 (.fa 3 (.t 71))),.q (.q 73 (.fa 2 (.t 72))),.q (.l 74 (.ld1 (.t 73))),.q (.v 75 8),.m (.a 76 (.cl 40 [(.t 75)] [2,1,3,4])),.rc (.v 69 8),.rc (.v 70 8),.rc (.q 71 (.nc (.t 70))),.rc (.q 72 (.fa 3 (.t 71))),.rc (.q 73 (.fa 2 (.t 72))),.rc (.l 74 (.ld1 (.t 73))),.m (.e 77 (.bsl 56 2 [(.t 76)])),.rc (.v 69 8),.rc (.v 70 8),.rc (.q 71 (.nc (.t 70))),.rc (.q 72 (.fa 3 (.t 71))),.rc (.q 73 (.fa 2 (.t 72))),.rc (.l 74 (.ld1 (.t 73))),.m (.e 78 (.ap 56 2 40 (.t 74) (.t 77))),.rc (.v 69 8),.q (.q 79 (.nc (.t 69))),.q (.q 80 (.fa 3 (.t 79))),.q (.q 81 (.fa 2 (.t 80))),.m (.s (.st 1 (.t 81) (.t 78)))])
@[go_sem ↓] theorem U8:bT pE:=bW _
def p9:PC:=.gh (.reg [.v 48 8,.a 49 (.cl 35 [(.t 48)] [2,1,3,4])])
@[go_sem ↓] theorem VA:bT p9:=bW _
def pcG12m_15:PC:=.seq (.seq (.gh (.reg [.v 82 8,.q 83 (.nc (.t 82)),.q 84 (.fa 1 (.t 83)),.l 85 (.ld1 (.t 84))])) (.cond (.t 85) (.seq (.ord  [.q (.q 86 (.bd [(.int .i64 0),(.slice none 0 0),(.slice none 0 0)] [])),.q (.v 87 8),.q (.q 88 (.nc (.t 87))),.q (.q 89 (.fa 2 (.t 88))),.q (.l 90 (.ld1 (.t 89))),.m (.s (.st 3 (.t 2) (.t 86))),.rc (.v 87 8),.rc (.q 88 (.nc (.t 87))),.rc (.q 89 (.fa 2 (.t 88))),.rc (.l 90 (.ld1 (.t 89))),.m (.q 3 (.mv (.i 2))),.rc (.v 87 8),.rc (.q 88 (.nc (.t 87))),.rc (.q 89 (.fa 2 (.t 88))),.rc (.l 90 (.ld1 (.t 89))),.m (.v 4 90)]) .ret) .skip)) .skip
@[go_sem ↓] theorem U9:bT pcG12m_15:=bW _
def sM:PC:=.seq (.gh (.reg [.v 35 8,.a 36 (.cl 37 [(.t 35),(.k (.string (mk [59])))] [2,1,3,4])])) (.seq (.block 0 (.loop (.seq (.seq (.reg [.v 37 8,.q 38 (.nc (.t 37)),.q 39 (.fa 1 (.t 38)),.l 40 (.ld1 (.t 39)),.q 41 (.not (.t 40)),.v 42 41,⟨some 43,(some (42,true)),.q (.mv (.t 5))⟩,⟨some 44,(some (42,true)),.cl 38 [(.t 43)] [1]⟩,⟨some 45,(some (42,true)),.q (.fld1 0 (.t 44))⟩,⟨some 46,(some (42,true)),.q (.bin .neq true (.t 45) (.i 0))⟩,.a 47 (.pick (.t 42) (.t 46) (.k (.bool false)))]) (.cond (.t 47) .skip (.exit 0))) (.block 1 (.block 2 (.seq (.reg [.v 51 8,.a 52 (.cl 34 [(.t 51),(.k (.string (mk [101,110,117,109])))] [2,1,3,4]),.v 50 52]) (.cond (.t 50) (pG) (.seq (.reg [.v 67 8,.a 68 (.cl 34 [(.t 67),(.k (.string (mk [115,116,114,117,99,116])))] [2,1,3,4]),.v 66 68]) (.cond (.t 66) (pE) (p9)))))))))) (pcG12m_15))
@[go_sem ↓] theorem W4:bT sM:=bW _
def pcG12m_7:PC:=.seq (.gh (.reg [.v 29 8,.v 30 8,.a 31 (.cl 36 [(.t 30),(.k (.bool false))] [2,1,3,4]),.q 32 (.nc (.t 29)),.q 33 (.fa 3 (.t 32)),.q 34 (.fa 0 (.t 33)),.s (.st 1 (.t 34) (.t 31))])) (sM)
@[go_sem ↓] theorem XR:bT pcG12m_7:=bW _
def sN:PC:=.seq (.seq (.gh (.reg [.v 24 8,.a 25 (.cl 34 [(.t 24),(.k (.string (mk [118,101,114,115,105,111,110])))] [2,1,3,4]),.q 26 (.not (.t 25))])) (.cond (.t 26) (.reg [.v 27 8,.a 28 (.cl 35 [(.t 27)] [2,1,3,4])]) .skip)) (pcG12m_7)
@[go_sem ↓] theorem V5:bT sN:=bW _
def uC:PC:=.seq (.reg [.e 2 (.al (.agg #[(.int .i64 0),(.slice none 0 0),(.slice none 0 0)]) 25),.q 3 (.mv (.i 0)),.q 4 (.mv (.i 0))]) (.seq (.reg [.v 11 0,.a 12 (.cl 33 [(.t 11)] []),.v 10 12,.q 13 (.ex (.t 10) 0),.q 14 (.ex (.t 10) 1),.q 15 (.ex (.t 10) 2),.v 5 13,.v 6 14,.v 7 15]) (.seq (.seq (.reg [.v 16 6,.q 17 (.bin .neq true (.t 16) (.i 0))]) (.cond (.t 17) (.seq (.reg [.q 18 (.bd [(.int .i64 0),(.slice none 0 0),(.slice none 0 0)] []),.v 19 6,.v 20 7,.s (.st 3 (.t 2) (.t 18)),.v 3 19,.v 4 20]) .ret) .skip)) (.seq (.reg [.v 21 5,.q 22 (.bd [(.pointer none),(.bool false),(.int .i64 0),(.int .i64 0),(.slice none 0 0),(.slice none 0 0)] [(0,1,(.t 21))]),.e 23 (.bx 70 (.t 22)),.v 8 23]) (sN))))
theorem QY:qS 9 MO=some (uC,lS):=by kernel_rfl
def pcG18_17:PC:=.seq (.seq (.gh (.reg [.v 61 10,.q 62 (.bin .gtr true (.t 61) (.i 6))])) (.cond (.t 62) (.seq (.reg [.q 63 (.bd [(.int .i64 0),(.int .i64 0),(.string (mk [])),(.slice none 0 0)] []),.s (.st 4 (.t 2) (.t 63)),.q 3 (.mv (.i 9)),.q 4 (.mv (.i 0))]) .ret) .skip)) (.seq (.reg [.l 64 (.ldn 4 (.t 9)),.s (.st 4 (.t 2) (.t 64)),.q 3 (.mv (.i 0)),.q 4 (.mv (.i 0))]) .ret)
@[go_sem ↓] theorem VL:bT pcG18_17:=bW _
def pcG18_8:PC:=.seq (.seq (.gh (.reg [.v 41 8,.q 42 (.nc (.t 41)),.q 43 (.fa 1 (.t 42)),.l 44 (.ld1 (.t 43))])) (.cond (.t 44) (.seq (.ord  [.q (.q 45 (.bd [(.int .i64 0),(.int .i64 0),(.string (mk [])),(.slice none 0 0)] [])),.q (.v 46 8),.q (.q 47 (.nc (.t 46))),.q (.q 48 (.fa 2 (.t 47))),.q (.l 49 (.ld1 (.t 48))),.m (.s (.st 4 (.t 2) (.t 45))),.rc (.v 46 8),.rc (.q 47 (.nc (.t 46))),.rc (.q 48 (.fa 2 (.t 47))),.rc (.l 49 (.ld1 (.t 48))),.m (.q 3 (.mv (.i 2))),.rc (.v 46 8),.rc (.q 47 (.nc (.t 46))),.rc (.q 48 (.fa 2 (.t 47))),.rc (.l 49 (.ld1 (.t 48))),.m (.v 4 49)]) .ret) .skip)) (.seq (.reg [.q 10 (.mv (.i 0))]) (.seq (.seq (.reg [.l 50 (.ldn 4 (.t 9)),.e 11 (.al (.agg #[(.int .i64 0),(.int .i64 0),(.string (mk [])),(.slice none 0 0)]) 37),.s (.st 4 (.t 11) (.t 50))]) (.block 0 (.loop (.seq (.seq (.reg [.q 51 (.fa 0 (.t 11)),.l 52 (.ld1 (.t 51)),.q 53 (.bin .eql true (.t 52) (.i 5))]) (.cond (.t 53) .skip (.exit 0))) (.seq (.block 1 (.reg [.v 58 10,.q 59 (.bin .add true (.t 58) (.i 1)),.v 10 59])) (.seq (.seq (.reg [.l 60 (.ldn 4 (.t 11))]) (.reg [.e 11 (.al (.agg #[(.int .i64 0),(.int .i64 0),(.string (mk [])),(.slice none 0 0)]) 37),.s (.st 4 (.t 11) (.t 60))])) (.reg [.q 54 (.fa 3 (.t 11)),.l 55 (.ld1 (.t 54)),.l 56 (.ia 4 (.t 55) (.i 0)),.l 57 (.ldn 4 (.t 56)),.s (.st 4 (.t 11) (.t 57))]))))))) (pcG18_17)))
@[go_sem ↓] theorem X4:bT pcG18_8:=bW _
def wO:PC:=.seq (.gh (.reg [.v 26 8,.a 27 (.cl 55 [(.t 26)] [2,1,3,4]),.e 9 (.al (.agg #[(.int .i64 0),(.int .i64 0),(.string (mk [])),(.slice none 0 0)]) 37),.s (.st 4 (.t 9) (.t 27))])) (.seq (.seq (.reg [.v 28 8,.q 29 (.nc (.t 28)),.q 30 (.fa 1 (.t 29)),.l 31 (.ld1 (.t 30)),.q 32 (.not (.t 31)),.v 33 32,⟨some 34,(some (33,true)),.q (.mv (.t 5))⟩,⟨some 35,(some (33,true)),.cl 38 [(.t 34)] [1]⟩,⟨some 36,(some (33,true)),.q (.fld1 0 (.t 35))⟩,⟨some 37,(some (33,true)),.q (.bin .neq true (.t 36) (.i 0))⟩,.a 38 (.pick (.t 33) (.t 37) (.k (.bool false)))]) (.cond (.t 38) (.reg [.v 39 8,.a 40 (.cl 35 [(.t 39)] [2,1,3,4])]) .skip)) (pcG18_8))
@[go_sem ↓] theorem YY:bT wO:=bW _
def MR:PC:=.seq (.reg [.e 2 (.al (.agg #[(.int .i64 0),(.int .i64 0),(.string (mk [])),(.slice none 0 0)]) 37),.q 3 (.mv (.i 0)),.q 4 (.mv (.i 0))]) (.seq (.reg [.v 13 0,.a 14 (.cl 33 [(.t 13)] []),.v 12 14,.q 15 (.ex (.t 12) 0),.q 16 (.ex (.t 12) 1),.q 17 (.ex (.t 12) 2),.v 5 15,.v 6 16,.v 7 17]) (.seq (.seq (.reg [.v 18 6,.q 19 (.bin .neq true (.t 18) (.i 0))]) (.cond (.t 19) (.seq (.reg [.q 20 (.bd [(.int .i64 0),(.int .i64 0),(.string (mk [])),(.slice none 0 0)] []),.v 21 6,.v 22 7,.s (.st 4 (.t 2) (.t 20)),.v 3 21,.v 4 22]) .ret) .skip)) (.seq (.reg [.v 23 5,.q 24 (.bd [(.pointer none),(.bool false),(.int .i64 0),(.int .i64 0),(.slice none 0 0),(.slice none 0 0)] [(0,1,(.t 23))]),.e 25 (.bx 70 (.t 24)),.v 8 25]) (wO))))
def qK:List RV:=[.ld (.ldn 4 (.t 2)),.mv (.t 3),.mv (.t 4)]
theorem W2:aT Tryz.prog true ⟨fun r k=>if r=5/\k=1 then .own [2,1,3,4] else if r=6/\k=7 then .own [1] else if r=7/\k=1 then .own [2,1,3,4] else .own [],fun r=>[5,8,17].contains r⟩ Tryz.f18=some (MR,qK):=by kernel_rfl
attribute [-go_sem] d6 f9 eA iL eX iD
def GI:List UInt8:=[118,101,114,115,105,111,110]
def iG:List UInt8:=[101,110,117,109]
def kB:List UInt8:=[115,116,114,117,99,116]
def vN (w:List UInt8) (ts:List Tk) (z:Fs):Fs:=bif aJ 1 w ts z then ⟨false,z.off,dR ts z.n⟩ else bB ts z
theorem PN {w:List UInt8} {ts:List Tk} {z:Fs} (h:z.n < ts.length):z.n<=(vN w ts z).n/\(vN w ts z).n < ts.length:=by
 unfold vN
 cases aJ 1 w ts z
 · rw [aH,fM]; exact ⟨Nat.le_refl _,h⟩
 · exact lX h
def mK (ts:List Tk):Nat->List En->List St->Fs->(List En × List St) × Fs
 | 0,a,b,z=>((a,b),z)
 | f + 1,a,b,z=>bif z.bad || (aN ts z.n).k == 0 then ((a,b),z) else
  bif aJ 1 iG ts z then mK ts f (a ++ [(g9 ts (aQ 1 iG ts z)).1]) b (g9 ts (aQ 1 iG ts z)).2
  else bif aJ 1 kB ts z then mK ts f a (b ++ [(iO ts (aQ 1 kB ts z)).1]) (iO ts (aQ 1 kB ts z)).2
  else ((a,b),bB ts z)
theorem sY (ts:List Tk) (f:Nat) (a:List En) (b:List St) (z:Fs):mK ts (f + 1) a b z=bif z.bad || (aN ts z.n).k == 0 then ((a,b),z) else
 bif aJ 1 iG ts z then mK ts f (a ++ [(g9 ts (aQ 1 iG ts z)).1]) b (g9 ts (aQ 1 iG ts z)).2
 else bif aJ 1 kB ts z then mK ts f a (b ++ [(iO ts (aQ 1 kB ts z)).1]) (iO ts (aQ 1 kB ts z)).2
 else ((a,b),bB ts z):=rfl
def B9 (ts:List Tk):Fs:=vN GI ts ⟨false,0,0⟩
def YQ (ts:List Tk):Int:=eL false ts (B9 ts)
def R7 (ts:List Tk):Fs:=bN [59] ts (eF false ts (B9 ts))
def EJ (ts:List Tk):(List En × List St) × Fs:=mK ts (ts.length + 1) [] [] (R7 ts)
def LM (ts:List Tk):Sc:=⟨YQ ts,(EJ ts).1.1,(EJ ts).1.2.map (mV ((EJ ts).1.1.map En.nm))⟩
def IR:Sc:=⟨0,[],[]⟩
def zZ (x:List UInt8):Sc × Int × Int:=
 bif (aI x).err != 0 then (IR,(aI x).err,(aI x).off) else
 bif (EJ (aI x).toks).2.bad then (IR,2,(EJ (aI x).toks).2.off) else
 bif eJ (LM (aI x).toks) != 0 then (IR,eJ (LM (aI x).toks),0) else (LM (aI x).toks,0,0)
theorem GH {ts:List Tk} (h:Tks ts):∀ (f:Nat) (a:List En) (b:List St) (z:Fs),z.n < ts.length->(∀ x ∈ a,EnP x)->(∀ x ∈ b,StP x)->
 ((∀ x ∈ (mK ts f a b z).1.1,EnP x)/\∀ x ∈ (mK ts f a b z).1.2,StP x)/\(mK ts f a b z).1.1.length<=a.length + f/\(mK ts f a b z).1.2.length<=b.length + f
 | 0,a,b,z,_,ha,hb=>⟨⟨ha,hb⟩,Nat.le_refl _,Nat.le_refl _⟩
 | f + 1,a,b,z,hn,ha,hb=>by
  rw [sY]
  cases z.bad || (aN ts z.n).k == 0
  · cases aJ 1 iG ts z
    · cases aJ 1 kB ts z
      · refine ⟨⟨ha,hb⟩,?_,?_⟩<;>(simp only [aH]; omega)
      · have h1:=d7 (k:=1) (w:=kB) hn
        have ih:=GH h f a (b ++ [(iO ts (aQ 1 kB ts z)).1]) _ (MJ h1.2).2 ha fun x hx=>by
         rcases List.mem_append.1 hx with hx | hx
         · exact hb x hx
         · rw [List.mem_singleton.1 hx]; exact XE h h1.2
        rw [aH,aH,aO]
        refine ⟨ih.1,?_,?_⟩
        · have:=ih.2.1; omega
        · have:=ih.2.2; rw [List.length_append,List.length_singleton] at this; omega
    · have h1:=d7 (k:=1) (w:=iG) hn
      have ih:=GH h f (a ++ [(g9 ts (aQ 1 iG ts z)).1]) b _ (NA h1.2).2 (fun x hx=>by
       rcases List.mem_append.1 hx with hx | hx
       · exact ha x hx
       · rw [List.mem_singleton.1 hx]; exact XF h h1.2) hb
      rw [aH,aO]
      refine ⟨ih.1,?_,?_⟩
      · have:=ih.2.1; rw [List.length_append,List.length_singleton] at this; omega
      · have:=ih.2.2; omega
  · refine ⟨⟨ha,hb⟩,?_,?_⟩<;>(simp only [aO]; omega)
theorem WE {ts:List Tk} (h:Tks ts):(B9 ts).n < ts.length:=(PN (z:=⟨false,0,0⟩) h.e.pos).2
def nV:W.Spec:=fun av H K=>∃ x,av=[tS x]/\H=[]/\K (.tu [.gs (aR (zZ (bl x)).1),iA .i64 (zZ (bl x)).2.1,iA .i64 (zZ (bl x)).2.2]) []
noncomputable def iM:cO:=[(33,.s iD),(34,.s qG),(35,.s k9),(36,.s lK),(37,.s kY),(38,.s (d6 123)),(39,.s EW),(40,.s F1),(31,.f ckFn)]
theorem FG:fC Tryz.prog iM:=aA RC (aA CJ (aA lO (aA uW (aA tH (aA mN (aA TO (aA I6 (aK HN (aB _)))))))))
theorem N4:sp iM 33=iD:=rfl
theorem NM:sp iM 34=qG:=rfl
theorem O6:sp iM 35=k9:=rfl
theorem O1:sp iM 36=lK:=rfl
theorem OL:sp iM 37=kY:=rfl
theorem PD:sp iM 38=d6 123:=rfl
theorem PB:sp iM 39=EW:=rfl
theorem PT:sp iM 40=F1:=rfl
theorem NT:iY iM 31=some ckFn:=rfl
theorem IH {x:ByteArray} {K:S->Hp->Prop} (h:(aI (bl x)).err=0) (hK:K (.tu [.c1 (.pt 0 0),iA .i64 0,iA .i64 0]) [dW 123 (aI (bl x)).toks 0]):iD [tS x] [] K:=⟨fun _=>hK,fun h'=>absurd h h'⟩
theorem D7 {x:ByteArray} {K:S->Hp->Prop} (h:(aI (bl x)).err ≠ 0) (hK:K (.tu [.c1 (.vl (.pointer none)),iA .i64 (aI (bl x)).err,iA .i64 (aI (bl x)).off]) []):iD [tS x] [] K:=⟨fun h'=>absurd h' h,fun _=>hK⟩
abbrev zSc:B:=.cells [.vl (.int .i64 0),.vl (.slice none 0 0),.vl (.slice none 0 0)] 25
abbrev B0 (b1:B) (ver:Int) (z:Fs) (es:List En) (ss:List St):Hp:=[zSc,b1,.cells (X6 ver z.bad z.off es.length ss.length) 70,.row (es.map bC) 62 3,.row (ss.map aV) 56 2]
abbrev FO:Fr:=cN [(2,.va (.c1 (.pt 0 0))),(8,.va (.c1 (.pt 2 0)))]
def p5 (K:S->Hp->Prop) (fr:Fr) (H:Hp):Prop:=∃ b1 ver z es ss,fr 2=.va (.c1 (.pt 0 0))/\fr 8=.va (.c1 (.pt 2 0))/\H=B0 b1 ver z es ss/\(es.length<=1000000/\ss.length<=1000000/\∀ s ∈ ss,s.fs.length<=1000000/\∀ f ∈ s.fs,∃ d t0,yJ d t0 f.ty)/\
 vc iM 0 lS FO (B0 .dead ver z es (ss.map (mV (es.map En.nm)))) (eB 0 jR K)
theorem wB:j4 Tryz.prog 41=true:=by kernel_rfl
theorem OW (hs:∀ av K,nV av [] K->vc iM 0 uC (rH av) [] (pK (p5 K) (eB 0 jR K))):Meets Tryz.prog 12 nV:=by
 have hb:Tryz.f12.body=some _:=rfl
 refine ID (n:=9) Tryz.func12 hb VK rfl QY FG (fun av H K h=>?_) (fun av H K h=>?_) (Mid:=p5) hs ?_
 · obtain ⟨x,rfl,_⟩:=h
   rw [Tryz.ntmps12]
   show 1<=_
   decide
 · obtain ⟨x,rfl,rfl,_⟩:=h
   exact ⟨rfl,fun y hy=>⟨_,List.mem_singleton.1 hy⟩⟩
 intro K w0 ro0 fr E ro a w h0 hM hf hR hG Q hQ
 obtain ⟨b1,ver,z,es,ss,h2,h8,hH,⟨l1,l2,l3⟩,hv⟩:=hM
 match E,hH with
 | [(g0,k0),(g1,k1),(g2,k2),(g3,k3),(g4,k4)],hH=>
 simp only [hp,List.map_cons,List.map_nil,List.cons.injEq,and_true] at hH
 obtain ⟨rfl,rfl,rfl,rfl,rfl⟩:=hH
 have hRs:=WC hR h0 fun s hs f hf=>(l3 s hs).2 f hf
 obtain ⟨bp,hbp,c3,c4,c5⟩:=JZ hR
 have s8:=hf.slot 8
 rw [h8] at s8
 obtain ⟨gg,bb,e1,e2,e3,e4⟩:=s8
 obtain rfl:g2=gg:=aZ e1
 rw [hbp] at e3
 obtain rfl:=aZ e3
 refine OG (v:=.pointer (some ⟨bp,0,none⟩)) rfl rfl rfl rfl rfl e4 (by rw [hf.size,Tryz.ntmps12]; decide) wB
  (A5 w bp ver g3.ob g4.ob g3.cap g4.cap es ss (es.map En.nm) ro hRs l1 l2 (fun s hs=>(l3 s hs).1) c3 c4 c5) ?_
 rintro e w' ⟨rfl,L,hL,hC,hD⟩
 refine ⟨_,rfl,?_⟩
 have hT:=Z8 hR h0 rfl hL hC hD
 refine hQ FO _ (mE L ro) _ w' ?hv ⟨by simp only [Act.put]; simpa using hf.size,fun i=>?_,hf.defers⟩ hT
 case hv=>exact hv
 have s2:=hf.slot 2
 rw [h2] at s2
 unfold FO
 by_cases i2:i=2
 · subst i2
   rw [show cN [(2,S.va (.c1 (.pt 0 0))),(8,.va (.c1 (.pt 2 0)))] 2=.va (.c1 (.pt 0 0)) from rfl]
   simp only [Act.put]
   rw [Array.getD_eq_getD_getElem?,Array.getElem?_setIfInBounds_ne (by decide),Array.getElem?_setIfInBounds_ne (by decide),<-Array.getD_eq_getD_getElem?]
   exact s2
 · by_cases i8:i=8
   · subst i8
     rw [show cN [(2,S.va (.c1 (.pt 0 0))),(8,.va (.c1 (.pt 2 0)))] 8=.va (.c1 (.pt 2 0)) from rfl]
     simp only [Act.put]
     rw [Array.getD_eq_getD_getElem?,Array.getElem?_setIfInBounds_ne (by decide),Array.getElem?_setIfInBounds_ne (by decide),<-Array.getD_eq_getD_getElem?]
     have s8:=hf.slot 8
     rw [h8] at s8
     exact s8
   · have:cN [(2,S.va (.c1 (.pt 0 0))),(8,.va (.c1 (.pt 2 0)))] i=.un:=by
      simp [cN,put,i2,i8]
     rw [this]; trivial
end Go.Proofs.YtgogpogophflhaaGreatDoor
namespace Go.Proofs.YtgogpogophflhaaGreatDoor
open Go.W
attribute [-go_sem] d6 f9 eA iL eX iD
attribute [local go_sem] N4 NM O6 O1 OL PD PB PT NT
@[local go_sem] theorem aEA (Mid:Fr->Hp->Prop) (K:Ex->Fr->Hp->Prop) (fr:Fr) (H:Hp):pK Mid K .r fr H=K .r fr H:=rfl
@[local go_sem] theorem aFW (Mid:Fr->Hp->Prop) (K:Ex->Fr->Hp->Prop) (fr:Fr) (H:Hp):pK Mid K .n fr H=Mid fr H:=rfl
theorem EO {ts:List Tk}:∀ (f:Nat) (a:List En) (b:List St) (z:Fs),z.bad=true->mK ts f a b z=((a,b),z)
 | 0,_,_,_,_=>rfl
 | f + 1,a,b,z,h=>by rw [sY,h,Bool.true_or,aO]
abbrev pM (ver:Int) (es:List En) (ss:List St) (ts:List Tk) (z:Fs):Hp:=[.cells [.pt 1 0,.vl (.bool z.bad),.vl (.int .i64 z.off),.vl (.int .i64 ver),.sl 2 es.length,.sl 3 ss.length] 70,dW 123 ts z.n,.row (es.map bC) 62 3,.row (ss.map aV) 56 2]
theorem z6 {s:W.Spec} {ver:Int} {es:List En} {ss:List St} {ts:List Tk} {z:Fs} {av:List S} {K:S->Hp->Prop} (h:s av (pH ⟨ver,es.map bC,ss.map aV⟩ ts z) K):s av (pM ver es ss ts z) K:=by
 have e:pH ⟨ver,es.map bC,ss.map aV⟩ ts z=pM ver es ss ts z:=by simp [pH,pM]
 rw [<-e]; exact h
theorem N3:∀ av K,nV av [] K->vc iM 0 uC (rH av) [] (pK (p5 K) (eB 0 jR K)):=by
 rintro av K ⟨x,rfl,-,hK⟩
 unfold zZ at hK
 simp (maxSteps:=9^6) -dsimp only [go_sem,uC,jR]
 by_cases hx:(aI (bl x)).err=0
 case neg=>
  refine D7 hx ?_
  have hx':((aI (bl x)).err != 0)=true:=bne_iff_ne.2 hx
  rw [hx',aO] at hK
  simp (maxSteps:=9^6) -dsimp only [go_sem,hx']
  refine .sel [] (by simp) (by simp [b5]) rfl (.done ?_)
  simp (maxSteps:=9^6) -dsimp only [go_sem,b5]
  exact hK
 case pos=>
  refine IH hx ?_
  have hx':((aI (bl x)).err != 0)=false:=by rw [hx]; rfl
  rw [hx',aH] at hK
  have ht:=pO hx
  generalize (aI (bl x)).toks=ts at *
  simp (maxSteps:=9^6) -dsimp only [go_sem]
  refine ⟨fun h=>(by cases h),fun _=>aX rfl ?_⟩
  refine .nilc 2 4 62 3 _ _ rfl rfl ?_
  refine .nilc 2 5 56 2 _ _ rfl rfl (.done ?_)
  simp (maxSteps:=9^6) -dsimp only [go_sem,sN]
  have t7:vc iM 0 pcG12m_7.ungh (cN [(2,.va (.c1 (.pt 0 0))),(5,.va (.c1 (.pt 1 0))),(8,.va (.c1 (.pt 2 0)))]) (B0 (dW 123 ts (B9 ts).n) 0 (B9 ts) [] []) (pK (p5 K) (eB 0 jR K)):=by
   have hn1:=WE ht
   have hle:=ht.e.le
   unfold LM EJ R7 YQ at hK
   generalize B9 ts=z1 at *
   simp (maxSteps:=9^6) -dsimp only [go_sem,pcG12m_7,jR]
   refine rF (o:=⟨0,[],[]⟩) (z:=z1) ht hn1 ?_
   simp (maxSteps:=9^6) -dsimp only [go_sem]
   have hn2:=(kN (c:=false) hn1).2
   have hvi:=uU (c:=false) ht hn1
   generalize eL false ts z1=ver at *
   generalize eF false ts z1=z2 at *
   refine aX rfl (.done ?_)
   simp (maxSteps:=9^6) -dsimp only [go_sem,sM]
   refine fW (o:=⟨ver,[],[]⟩) (z:=z2) ht hn2 ?_
   rw [show bl (mk [59])=[59] from rfl]
   have hn3:=(cK (w:=[59]) hn2).2
   generalize bN [59] ts z2=z3 at *
   simp (maxSteps:=9^6) -dsimp only [go_sem]
   refine cL (α:=Nat × List En × List St × Fs) (fun x=>[(2,.va (.c1 (.pt 0 0))),(5,.va (.c1 (.pt 1 0))),(8,.va (.c1 (.pt 2 0)))])
    (fun x=>B0 (dW 123 ts x.2.2.2.n) ver x.2.2.2 x.2.1 x.2.2.1)
    (fun x=>x.2.2.2.n < ts.length/\x.2.1.length + x.1<=ts.length + 1/\x.2.2.1.length + x.1<=ts.length + 1/\(x.2.2.2.bad=true\/ts.length < x.2.2.2.n + x.1)/\mK ts x.1 x.2.1 x.2.2.1 x.2.2.2=mK ts (ts.length + 1) [] [] z3)
    (fun x=>x.1) (gT (ts.length + 1,[],[],z3) 5 ⟨hn3,by simp,by simp,Or.inr (by simp only; omega),rfl⟩ ?_ ?_) ?_
   · simp -dsimp only [go_sem]<;>simp
   · simp -dsimp only [go_sem]<;>simp
   rintro ⟨f,es,ss,z⟩ ⟨h1,h2,h2',h3,h4⟩
   simp only at h1 h2 h2' h3 h4
   have fin:∀ z',mK ts (ts.length + 1) [] [] z3=((es,ss),z')->vc iM 0 pcG12m_15.ungh (cN [(2,.va (.c1 (.pt 0 0))),(8,.va (.c1 (.pt 2 0)))]) (B0 (dW 123 ts z'.n) ver z' es ss) (pK (p5 K) (eB 0 jR K)):=fun z' e=>by
    have hP:=GH ht (ts.length + 1) [] [] z3 hn3 (fun x hx=>by cases hx) fun x hx=>by cases hx
    rw [e] at hK hP
    obtain ⟨⟨p1,p2⟩,p3,p4⟩:=hP
    simp only [List.length_nil,Nat.zero_add] at p1 p2 p3 p4 hK
    simp (maxSteps:=9^6) -dsimp only [go_sem,pcG12m_15,jR]
    refine ⟨fun hb=>?_,fun hb=>?_⟩
    · rw [hb,aO] at hK
      refine .sel [] (by simp) (by simp [b5]) rfl (.done ?_)
      simp (maxSteps:=9^6) -dsimp only [go_sem,b5]
      exact hK
    rw [hb,aH] at hK
    refine ⟨_,ver,z',es,ss,rfl,rfl,rfl,⟨by omega,by omega,fun s hs=>⟨by have:=(p2 s hs).l; omega,fun f hf=>((p2 s hs).f f hf).t.wrp⟩⟩,?_⟩
    have hP:ScP ⟨ver,es,ss.map (mV (es.map En.nm))⟩:=⟨hvi,by simp only; omega,by simp only [List.length_map]; omega,p1,fun t ht=>by
     obtain ⟨s,hs,rfl⟩:=List.mem_map.1 ht
     exact (p2 s hs).rs _⟩
    generalize ss.map (mV (es.map En.nm))=rr at *
    refine aX rfl (.pub 3 _ _ _ rfl (.pub 4 _ _ _ rfl (.done ?_)))
    simp (maxSteps:=9^6) -dsimp only [go_sem,lS,jR,b5]
    refine ⟨⟨_,rfl,hP.fit⟩,?_⟩
    rw [show C.sc [C.vl (Value.int IntKind.i64 ver),C.fz (List.map bC es),C.fz (List.map aV rr)]=⟨ver,es,rr⟩ from pU ⟨ver,es,rr⟩]
    refine ⟨fun hc=>?_,fun hc=>?_⟩
    · rw [hc,aO] at hK
      refine .sel [] (by simp) (by simp [b5]) rfl (.done ?_)
      simp (maxSteps:=9^6) -dsimp only [go_sem,b5]
      exact hK
    · rw [hc,aH] at hK
      refine .sel [] (by simp) (by simp [b5]) rfl (.done ?_)
      simp (maxSteps:=9^6) -dsimp only [go_sem,b5]
      exact hK
   obtain ⟨bb,oo,n⟩:=z
   cases bb with
   | true=>
    rw [EO _ _ _ _ rfl] at h4
    simp (maxSteps:=9^6) -dsimp only [go_sem]
    refine bK 5 (fin _ h4.symm) ?_ ?_
    · simp -dsimp only [go_sem]<;>simp
    · simp -dsimp only [go_sem]<;>simp
   | false=>
   have h3:ts.length < n + f:=by
    rcases h3 with h3 | h3
    · cases h3
    · exact h3
   simp only at h1
   obtain ⟨f,rfl⟩:∃ g,f=g + 1:=⟨f - 1,by omega⟩
   rw [sY,Bool.false_or] at h4
   simp (maxSteps:=9^6) -dsimp only [go_sem]
   refine jF ht.e h1 ?_
   simp only at h4
   cases hk:(aN ts n).k == 0 with
   | true=>
    rw [hk,aO] at h4
    have hk':((aN ts n).k != 0)=false:=by rw [bne,hk]; rfl
    simp (maxSteps:=9^6) -dsimp only [go_sem,cI,hk']
    refine bK 5 (fin _ h4.symm) ?_ ?_
    · simp -dsimp only [go_sem]<;>simp
    · simp -dsimp only [go_sem]<;>simp
   | false=>
   rw [hk,aH] at h4
   have hk':((aN ts n).k != 0)=true:=by rw [bne,hk]; rfl
   clear fin
   simp (maxSteps:=9^6) -dsimp only [go_sem,cI,hk']
   refine z6 (z:=⟨false,oo,n⟩) (f8 ht h1 ?_)
   rw [show bl (mk [101,110,117,109])=iG from rfl]
   cases he:aJ 1 iG ts ⟨false,oo,n⟩ with
   | true=>
    rw [he,aO] at h4
    obtain ⟨q1,q2,q3⟩:=kV (by decide) ht.e h1 he
    have e1:aQ 1 iG ts ⟨false,oo,n⟩=⟨false,oo,n + 1⟩:=by unfold aQ; rw [he,q1]; rfl
    rw [e1] at h4 ⊢
    simp (maxSteps:=9^6) -dsimp only [go_sem]
    refine aX rfl (.done ?_)
    simp (maxSteps:=9^6) -dsimp only [go_sem,pG]
    refine z6 (z:=⟨false,oo,n + 1⟩) (RW ht q2 ?_)
    have g1:=NA (z:=⟨false,oo,n + 1⟩) q2
    generalize g9 ts ⟨false,oo,n + 1⟩=r at *
    obtain ⟨en,z4⟩:=r
    simp only at h4 g1 ⊢
    simp (maxSteps:=9^6) -dsimp only [go_sem,bC]
    refine ⟨by omega,?_⟩
    refine aD (f,es ++ [en],ss,z4) 5 ⟨g1.2,?_,?_,.inr ?_,h4⟩ (by simp) ?_ ?_
    · simp only [List.length_append,List.length_singleton]; omega
    · simp only; omega
    · simp only at g1 ⊢; omega
    · simp -dsimp only [go_sem]<;>simp
    · simp -dsimp only [go_sem,bC]<;>simp [bC]
   | false=>
   rw [he,aH] at h4
   rw [fL he]
   simp (maxSteps:=9^6) -dsimp only [go_sem]
   refine z6 (z:=⟨false,oo,n⟩) (f8 ht h1 ?_)
   rw [show bl (mk [115,116,114,117,99,116])=kB from rfl]
   cases hs:aJ 1 kB ts ⟨false,oo,n⟩ with
   | true=>
    rw [hs,aO] at h4
    obtain ⟨q1,q2,q3⟩:=kV (by decide) ht.e h1 hs
    have e1:aQ 1 kB ts ⟨false,oo,n⟩=⟨false,oo,n + 1⟩:=by unfold aQ; rw [hs,q1]; rfl
    rw [e1] at h4 ⊢
    simp (maxSteps:=9^6) -dsimp only [go_sem]
    refine aX rfl (.done ?_)
    simp (maxSteps:=9^6) -dsimp only [go_sem,pE]
    refine z6 (z:=⟨false,oo,n + 1⟩) (Q8 ht q2 ?_)
    have g1:=MJ (z:=⟨false,oo,n + 1⟩) q2
    generalize iO ts ⟨false,oo,n + 1⟩=r at *
    obtain ⟨st,z4⟩:=r
    simp only at h4 g1 ⊢
    simp (maxSteps:=9^6) -dsimp only [go_sem,aV]
    refine ⟨by omega,?_⟩
    refine aD (f,es,ss ++ [st],z4) 5 ⟨g1.2,?_,?_,.inr ?_,h4⟩ (by simp) ?_ ?_
    · simp only; omega
    · simp only [List.length_append,List.length_singleton]; omega
    · simp only at g1 ⊢; omega
    · simp -dsimp only [go_sem]<;>simp
    · simp -dsimp only [go_sem,aV]<;>simp [aV]
   | false=>
   rw [hs,aH] at h4
   rw [fL hs]
   simp (maxSteps:=9^6) -dsimp only [go_sem]
   refine aX rfl (.done ?_)
   simp (maxSteps:=9^6) -dsimp only [go_sem,p9]
   refine z6 (z:=⟨false,oo,n⟩) (gH ht h1 ?_)
   simp (maxSteps:=9^6) -dsimp only [go_sem]
   refine aD (f,es,ss,bB ts ⟨false,oo,n⟩) 5 ⟨h1,?_,?_,.inl rfl,?_⟩ (by simp) ?_ ?_
   · simp only; omega
   · simp only; omega
   · rw [<-h4]; exact EO _ _ _ _ rfl
   · simp -dsimp only [go_sem]<;>simp
   · simp -dsimp only [go_sem]<;>simp
  refine f8 (o:=⟨0,[],[]⟩) (z:=⟨false,0,0⟩) ht ht.e.pos ?_
  rw [show bl (mk [118,101,114,115,105,111,110])=GI from rfl]
  unfold B9 vN at t7
  cases hk:aJ 1 GI ts ⟨false,0,0⟩ with
  | true=>
   rw [hk,aO] at t7
   have hF:aQ 1 GI ts ⟨false,0,0⟩=⟨false,0,dR ts 0⟩:=by unfold aQ; rw [hk]; rfl
   rw [hF]
   simp (maxSteps:=9^6) -dsimp only [go_sem]
   refine bK 5 t7 ?_ ?_
   · simp -dsimp only [go_sem]<;>simp
   · simp -dsimp only [go_sem]<;>simp
  | false=>
   rw [hk,aH] at t7
   rw [fL hk]
   simp (maxSteps:=9^6) -dsimp only [go_sem]
   refine gH (o:=⟨0,[],[]⟩) (z:=⟨false,0,0⟩) ht ht.e.pos ?_
   simp (maxSteps:=9^6) -dsimp only [go_sem]
   refine bK 5 t7 ?_ ?_
   · simp -dsimp only [go_sem]<;>simp
   · simp -dsimp only [go_sem]<;>simp
theorem T5:Meets Tryz.prog 12 nV:=OW N3
end Go.Proofs.YtgogpogophflhaaGreatDoor
namespace Go.Proofs.YtgogpogophflhaaGreatDoor
open Go.W
attribute [-go_sem] d6 f9 eA iL eX iD
def l6:Ty:=.mk 0 0 (mk []) []
def gK (ts:List Tk) (z:Fs):Fs:=bif !z.bad && (aN ts z.n).k != 0 then bB ts z else z
def kG (ts:List Tk):Ty × Fs:=((gV ts ⟨false,0,0⟩).1,gK ts (gV ts ⟨false,0,0⟩).2)
def l7 (x:List UInt8):Ty × Int × Int:=
 bif (aI x).err != 0 then (l6,(aI x).err,(aI x).off) else
 bif (kG (aI x).toks).2.bad then (l6,2,(kG (aI x).toks).2.off) else
 bif decide (6 < (bL (kG (aI x).toks).1).1) then (l6,9,0) else ((kG (aI x).toks).1,0,0)
def oE:W.Spec:=fun av H K=>∃ x,av=[tS x]/\H=[]/\K (.tu [.gs (aP (l7 (bl x)).1),iA .i64 (l7 (bl x)).2.1,iA .i64 (l7 (bl x)).2.2]) []
theorem s9 {t0:Ty} (h:t0.k ≠ 5):∀ d:List Int,bL (a6 d t0)=(d.length,t0)
 | []=>by
  cases t0 with
  | mk k s n e=>
   show bL (.mk k s n e)=(0,.mk k s n e)
   have h:k ≠ 5:=h
   rw [bL,beq_eq_false_iff_ne.2 h]; rfl
 | s :: d=>by
  show bL (.mk 5 s (mk []) [a6 d t0])=_
  rw [show bL (.mk 5 s (mk []) [a6 d t0])=((bL (a6 d t0)).1 + 1,(bL (a6 d t0)).2) by simp [bL,D5],s9 h d,List.length_cons]
noncomputable abbrev Y1:cO:=[(33,.s iD),(35,.s k9),(38,.s (d6 123)),(55,.s (BS gV))]
theorem O4:Meets Tryz.prog 18 oE:=by
 refine aF Tryz.func18 W2 1 (by rw [Tryz.ntmps18]; decide) (aA RC (aA lO (aA mN (aA G4 (aB _))))) (fun av H K h=>by obtain ⟨_,rfl,_⟩:=h; rfl) ?_
 rintro av H K ⟨x,rfl,rfl,hK⟩
 unfold l7 at hK
 simp (maxSteps:=9^6) -dsimp only [go_sem,MR,qK]
 by_cases hx:(aI (bl x)).err=0
 case neg=>
  refine D7 hx ?_
  have hx':((aI (bl x)).err != 0)=true:=bne_iff_ne.2 hx
  rw [hx',aO] at hK
  simp (maxSteps:=9^6) -dsimp only [go_sem,hx']
  refine .sel [] (by simp) (by simp [b5]) rfl (.done ?_)
  simp (maxSteps:=9^6) -dsimp only [go_sem,b5]
  exact hK
 refine IH hx ?_
 have hx':((aI (bl x)).err != 0)=false:=by rw [hx]; rfl
 rw [hx',aH] at hK
 have ht:=pO hx
 generalize (aI (bl x)).toks=ts at *
 unfold kG at hK
 have hTP:=rE (z:=⟨false,0,0⟩) ht ht.e.pos
 have hn1:=FZ (z:=⟨false,0,0⟩) ht.e.pos
 simp (maxSteps:=9^6) -dsimp only [go_sem]
 refine ⟨fun h=>(by cases h),fun _=>aX rfl ?_⟩
 refine .nilc 2 4 62 3 _ _ rfl rfl ?_
 refine .nilc 2 5 56 2 _ _ rfl rfl (.done ?_)
 simp (maxSteps:=9^6) -dsimp only [go_sem,wO]
 refine CP (o:=⟨0,[],[]⟩) (z:=⟨false,0,0⟩) ht ht.e.pos ?_
 generalize gV ts ⟨false,0,0⟩=r at *
 obtain ⟨t,z⟩:=r
 simp only at hTP hn1 hK ⊢
 have t8:vc Y1 0 pcG18_8.ungh (cN [(2,.va (.c1 (.pt 0 0))),(8,.va (.c1 (.pt 2 0))),(9,.va (.c1 (.pt 5 0)))])
  [.cells [.vl (.int .i64 0),.vl (.int .i64 0),.vl (.string (mk [])),.vl (.slice none 0 0)] 37,dW 123 ts (gK ts z).n,.cells [.pt 1 0,.vl (.bool (gK ts z).bad),.vl (.int .i64 (gK ts z).off),.vl (.int .i64 0),.sl 3 0,.sl 4 0] 70,.row [] 62 3,.row [] 56 2,.cells [.vl (.int .i64 t.k),.vl (.int .i64 t.s),.vl (.string t.n),.fz (t.e.map aP)] 37] (eB 0 qK K):=by
  generalize gK ts z=y at *
  simp (maxSteps:=9^6) -dsimp only [go_sem,pcG18_8,qK]
  refine ⟨fun hb=>?_,fun hb=>?_⟩
  · rw [hb,aO] at hK
    refine .sel [] (by simp) (by simp [b5]) rfl (.done ?_)
    simp (maxSteps:=9^6) -dsimp only [go_sem,b5]
    exact hK
  rw [hb,aH] at hK
  obtain ⟨dd,tt,hw1,hw2,hw3⟩:=hTP.wrp
  have hd4:=hTP.ok.2.2
  have hlv:(bL t).1=dd.length:=by rw [hw1,s9 hw2]
  have t17:vc Y1 0 pcG18_17.ungh (cN [(2,.va (.c1 (.pt 0 0))),(9,.va (.c1 (.pt 5 0))),(10,iS .i64 dd.length)])
   [.cells [.vl (.int .i64 0),.vl (.int .i64 0),.vl (.string (mk [])),.vl (.slice none 0 0)] 37,dW 123 ts y.n,.cells [.pt 1 0,.vl (.bool y.bad),.vl (.int .i64 y.off),.vl (.int .i64 0),.sl 3 0,.sl 4 0] 70,.row [] 62 3,.row [] 56 2,.cells [.vl (.int .i64 t.k),.vl (.int .i64 t.s),.vl (.string t.n),.fz (t.e.map aP)] 37,.cells (aP tt) 37] (eB 0 qK K):=by
   rw [hlv] at hK
   simp (maxSteps:=9^6) -dsimp only [go_sem,pcG18_17,qK]
   refine ⟨fun hc=>?_,fun hc=>?_⟩
   · rw [show decide (6 < dd.length)=true from decide_eq_true (by have:=of_decide_eq_true hc; omega),aO] at hK
     refine .sel [] (by simp) (by simp [b5]) rfl (.done ?_)
     simp (maxSteps:=9^6) -dsimp only [go_sem,b5]
     exact hK
   · rw [show decide (6 < dd.length)=false from decide_eq_false (by have:=of_decide_eq_false hc; omega),aH] at hK
     refine .sel [] (by simp) (by simp [b5]) rfl (.done ?_)
     simp (maxSteps:=9^6) -dsimp only [go_sem,b5]
     rw [aY t] at hK
     exact hK
  refine cL (α:=Nat × List Int) (fun x=>[(2,.va (.c1 (.pt 0 0))),(9,.va (.c1 (.pt 5 0))),(10,iS .i64 x.1),(11,.va (.c1 (.pt 6 0)))])
   (fun x=>[.cells [.vl (.int .i64 0),.vl (.int .i64 0),.vl (.string (mk [])),.vl (.slice none 0 0)] 37,dW 123 ts y.n,.cells [.pt 1 0,.vl (.bool y.bad),.vl (.int .i64 y.off),.vl (.int .i64 0),.sl 3 0,.sl 4 0] 70,.row [] 62 3,.row [] 56 2,.cells [.vl (.int .i64 t.k),.vl (.int .i64 t.s),.vl (.string t.n),.fz (t.e.map aP)] 37,.cells (aP (a6 x.2 tt)) 37])
   (fun x=>x.1 + x.2.length=dd.length)
   (fun x=>x.2.length) (gT (0,dd) 7 (by simp) ?_ ?_) ?_
  · simp -dsimp only [go_sem]<;>simp
  · simp -dsimp only [go_sem]<;>simp [<-hw1,aY t]
  rintro ⟨m,l⟩ h1
  simp only at h1
  have hdl:dd.length<=4002:=by omega
  cases l with
  | nil=>
   simp only [List.length_nil,Nat.add_zero] at h1
   have hk5:(tt.k == 5)=false:=beq_eq_false_iff_ne.2 hw2
   show vc _ _ _ _ _ _
   simp only [show a6 [] tt=tt from rfl,aY tt]
   simp (maxSteps:=9^6) -dsimp only [go_sem,hk5]
   refine bK 7 t17 ?_ ?_
   · simp -dsimp only [go_sem,h1]<;>simp [h1]
   · simp -dsimp only [go_sem]<;>simp [aY tt]
  | cons s l=>
   simp only [show a6 (s :: l) tt=.mk 5 s (mk []) [a6 l tt] from rfl,aY (.mk 5 s (mk []) [a6 l tt])]
   simp (maxSteps:=9^6) -dsimp only [go_sem]
   simp only [List.length_cons] at h1
   refine ⟨fun _=>⟨by omega,⟨⟨by omega,by simp [Ty.e]⟩,fun x hx=>cU x⟩,fun x hx=>?_⟩,fun h=>(by cases h)⟩
   obtain rfl:a6 l tt=x:=by simpa [Ty.e] using hx
   refine ⟨by rw [cU]; decide,⟨fun c hc=>(BY _ c hc).2,cU _⟩,by rw [cU]; decide,?_⟩
   refine JR (m + 1,l) [0,1,2,3,4,5,7] (by simp only; omega) (by simp) (by decide) (by simp) rfl ?_
   refine ⟨?_,?_⟩
   · simp -dsimp only [go_sem]<;>simp
   · simp -dsimp only [go_sem,aY]<;>simp
 simp (maxSteps:=9^6) -dsimp only [go_sem,aY t]
 have e1:∀ b,z.bad=b->(⟨b,z.off,z.n⟩:Fs)=z:=fun b h=>by subst h; rfl
 cases hb:z.bad with
 | true=>
  refine ⟨fun h=>(by cases h),fun _=>bK 6 t8 ?_ ?_⟩
  · simp -dsimp only [go_sem]<;>simp
  · rw [show gK ts z=z by unfold gK; rw [hb]; rfl]
    simp -dsimp only [go_sem,hb]<;>simp
 | false=>
  refine ⟨fun _=>jF ht.e hn1.2 ?_,fun h=>(by cases h)⟩
  cases hk:(aN ts z.n).k != 0 with
  | true=>
   simp (maxSteps:=9^6) -dsimp only [go_sem,cI,hk]
   refine gH (o:=⟨0,[],[]⟩) (z:=⟨false,z.off,z.n⟩) ht hn1.2 ?_
   rw [e1 false hb]
   simp (maxSteps:=9^6) -dsimp only [go_sem]
   rw [show gK ts z=bB ts z by unfold gK; rw [hb,hk]; rfl] at t8
   refine bK 6 t8 ?_ ?_
   · simp -dsimp only [go_sem]<;>simp
   · simp -dsimp only [go_sem]<;>simp
  | false=>
   simp (maxSteps:=9^6) -dsimp only [go_sem,cI,hk]
   rw [show gK ts z=z by unfold gK; rw [hb,hk]; rfl] at t8
   refine bK 6 t8 ?_ ?_
   · simp -dsimp only [go_sem]<;>simp
   · simp -dsimp only [go_sem,hb]<;>simp
end Go.Proofs.YtgogpogophflhaaGreatDoor
namespace Go.Proofs.YtgogpogophflhaaGreatDoor
open Go.W
inductive PlK (t:Ty):Prop
 | b (k:t.k=1) (s:t.s=0) (n:bl t.n=[])
 | u (k:t.k=3) (s:t.s=8\/t.s=16\/t.s=32) (n:bl t.n=[])
 | i (k:t.k=2) (s:t.s=8\/t.s=16\/t.s=32\/t.s=64) (n:bl t.n=[])
 | x (k:t.k=4) (s:0<=t.s) (n:bl t.n=[])
 | n (k:t.k=6\/t.k=7) (s:t.s=0) (m:bX (bl t.n)=true) (c:kC (bl t.n)=true)
section
variable {ts:List Tk} {n:Nat} {o:Int} {R:List NC}
end
theorem iH (ts:List Tk) (z:Fs):eR ts z=bif aJ 1 gR ts z then (.mk 1 0 (mk []) [],aQ 1 gR ts z) else bif aJ 1 wText ts z then (.mk 4 (dS ts (aQ 1 wText ts z)) (mk []) [],dV ts (aQ 1 wText ts z)) else
 bif aJ 1 [105,110,116,56] ts z then (.mk 2 8 (mk []) [],aQ 1 [105,110,116,56] ts z) else bif aJ 1 [117,105,110,116,56] ts z then (.mk 3 8 (mk []) [],aQ 1 [117,105,110,116,56] ts z) else
 bif aJ 1 [105,110,116,49,54] ts z then (.mk 2 16 (mk []) [],aQ 1 [105,110,116,49,54] ts z) else bif aJ 1 [117,105,110,116,49,54] ts z then (.mk 3 16 (mk []) [],aQ 1 [117,105,110,116,49,54] ts z) else
 bif aJ 1 [105,110,116,51,50] ts z then (.mk 2 32 (mk []) [],aQ 1 [105,110,116,51,50] ts z) else bif aJ 1 [117,105,110,116,51,50] ts z then (.mk 3 32 (mk []) [],aQ 1 [117,105,110,116,51,50] ts z) else
 bif aJ 1 [105,110,116,54,52] ts z then (.mk 2 64 (mk []) [],aQ 1 [105,110,116,54,52] ts z) else (.mk 6 0 (bZ true ts z) [],bM true ts z):=by
 unfold eR
 simp only [szs,kF,nW,kI,dS8,ZC,aBG,aA5]
 rfl
def dH:Nat->List Tk->Fs->Ty × Fs
 | f,ts,z=>bif z.bad || (aN ts z.n).k != 1 then (l6,bB ts z) else
  bif aJ 1 b8 ts z then (match f with
   | 0=>(l6,z)
   | f + 1=>(.mk 5 (dS ts (aQ 1 b8 ts z)) (mk []) [(dH f ts (hZ ts (dV ts (aQ 1 b8 ts z)))).1],(dH f ts (hZ ts (dV ts (aQ 1 b8 ts z)))).2))
  else eR ts z
theorem JS (f:Nat) (ts:List Tk) (z:Fs):dH (f + 1) ts z=bif z.bad || (aN ts z.n).k != 1 then (l6,bB ts z) else
 bif aJ 1 b8 ts z then (.mk 5 (dS ts (aQ 1 b8 ts z)) (mk []) [(dH f ts (hZ ts (dV ts (aQ 1 b8 ts z)))).1],(dH f ts (hZ ts (dV ts (aQ 1 b8 ts z)))).2)
 else eR ts z:=rfl
def MF (N:Nat):W.Spec:=fun av H K=>∃ ts z,av=[.va (.c1 (.pt 0 0))]/\H=d9 ts z/\Tks ts/\z.n < ts.length/\ts.length<=z.n + N/\K (.va (.gs (aP (dH N ts z).1))) (d9 ts (dH N ts z).2)
theorem HY {N:Nat} {ts:List Tk} {z:Fs} {K:S->Hp->Prop} (h1:Tks ts) (h2:z.n < ts.length) (h3:ts.length<=z.n + N) (hK:K (.va (.gs (aP (dH N ts z).1))) (d9 ts (dH N ts z).2)):MF N [.va (.c1 (.pt 0 0))] (d9 ts z) K:=⟨ts,z,rfl,rfl,h1,h2,h3,hK⟩
theorem IG {ts:List Tk} {z:Fs} (h:z.bad=true):bB ts z=z:=by unfold bB; rw [h]; rfl
theorem TA {ts:List Tk} {z:Fs} (h:Tks ts) (hn:z.n < ts.length):jB 1 xK ts z=hZ ts z:=HT (by decide) h hn
theorem D1:∀ N,Meets Tryz.prog 56 (MF N)
 | 0=>⟨by kernel_rfl,by rintro xs vs E ro w K _ _ _ ⟨ts,z,_,_,_,h1,h2,_⟩; omega⟩
 | N + 1=>by
  refine aF Tryz.func56 aBT 1 (by rw [Tryz.ntmps56]; decide) (aA QA (aA oS (aA UY (aA BF (aA (D1 N) (aA XS (aB _))))))) (fun av H K h=>by obtain ⟨_,_,rfl,_⟩:=h; rfl) ?_
  rintro av H K ⟨ts,⟨b,a,n⟩,rfl,rfl,ht,hn,hN,hK⟩
  have hle:=ht.e.le
  unfold dH at hK
  simp only at hn hN
  cases b with
  | true=>
   have hb:decide ((0:Int)<=(a.toNat:Int))=true:=decide_eq_true (by omega)
   simp (maxSteps:=9^6) -dsimp only [go_sem,J2,FD,pJ,hb]
   rw [IG rfl] at hK
   refine .sel [0] (by simp) (by simp) rfl (.done ?_)
   simp only [Bool.true_or,aO,l6,aY] at hK
   simp -dsimp only [go_sem]
   exact hK
  | false=>
   simp (maxSteps:=9^6) -dsimp only [go_sem,J2,FD,kD,NG]
   refine yD (z:=⟨false,a,n⟩) ht hn ?_
   cases hk:(aN ts n).k != 1 with
   | true=>
    simp (maxSteps:=9^6) -dsimp only [go_sem,cI,hk]
    rw [hk,Bool.false_or,aO] at hK
    refine fQ (z:=⟨false,a,n⟩) ht hn ?_
    simp (maxSteps:=9^6) -dsimp only [go_sem]
    refine .sel [0] (by simp) (by simp) rfl (.done ?_)
    simp only [l6,aY] at hK
    simp -dsimp only [go_sem]
    exact hK
   | false=>
    simp (maxSteps:=9^6) -dsimp only [go_sem,cI,hk]
    refine bK (up:=[(0,.va (.c1 (.pt 0 0))),(2,.va (.c1 (.pt 1 0)))]) (Hs:=d9 ts ⟨false,a,n⟩ ++ [.cells [.vl (.int .i64 0),.vl (.int .i64 0),.vl (.string (mk [])),.vl (.slice none 0 0)] 37]) 2 ?_ ?_ ?_
    · have hk1:(aN ts n).k=1:=bne_eq_false_iff_eq.1 hk
      have hx:∀ w,aJ 1 w ts ⟨false,a,n⟩=((aN ts n).x == w):=fun w=>by unfold aJ eD; simp [hk1]
      have hnx:=JU ht hn hk1 (by decide)
      have fin:∀ (t:Ty) (z':Fs) (R:Hp),dH (N + 1) ts ⟨false,a,n⟩=(t,z')->W.Fin 1 K (.va (.gs [.vl (.int .i64 t.k),.vl (.int .i64 t.s),.vl (.string t.n),.fz (t.e.map aP)])) (d9 ts z' ++ R):=fun t z' R h=>by
       have hK:K (.va (.gs (aP (dH (N + 1) ts ⟨false,a,n⟩).1))) (d9 ts (dH (N + 1) ts ⟨false,a,n⟩).2):=by unfold dH; exact hK
       rw [h,aY] at hK
       refine .sel [0] (by simp) (by simp) rfl (.done ?_)
       simpa [go_sem] using hK
      have hK2:∀ t z',dH (N + 1) ts ⟨false,a,n⟩=(t,z')->K (.va (.gs (aP t))) (d9 ts z'):=fun t z' h=>by
       have hK:K (.va (.gs (aP (dH (N + 1) ts ⟨false,a,n⟩).1))) (d9 ts (dH (N + 1) ts ⟨false,a,n⟩).2):=by unfold dH; exact hK
       rw [h] at hK; exact hK
      have hpl:∀ w t,((aN ts n).x == w)=true->(w == b8)=false->eR ts ⟨false,a,n⟩=(t,aQ 1 w ts ⟨false,a,n⟩)->dH (N + 1) ts ⟨false,a,n⟩=(t,⟨false,a,n + 1⟩):=fun w t h1 h2 h3=>by
       have e:=eq_of_beq h1
       unfold dH
       simp only [hk,hx,e,h2,Bool.false_or,aH]
       rw [h3]
       unfold aQ
       rw [hx,e,beq_self_eq_true,hnx.1]; rfl
      clear hK
      simp (maxSteps:=9^6) -dsimp only [go_sem,AG,FD]
      refine yD (z:=⟨false,a,n⟩) ht hn ?_
      simp (maxSteps:=9^6) -dsimp only [go_sem,cI,kD]
      refine ⟨fun c=>⟨by omega,fin (.mk 1 0 (mk []) []) ⟨false,a,n + 1⟩ _ (hpl _ _ c rfl ?_)⟩,fun _=>?_⟩
      · rw [iH,hx,hx,eq_of_beq c]; rfl
      refine ⟨fun c=>⟨by omega,fin (.mk 2 8 (mk []) []) ⟨false,a,n + 1⟩ _ (hpl _ _ c rfl ?_)⟩,fun _=>?_⟩
      · rw [iH]; simp only [hx,eq_of_beq c]; rfl
      refine ⟨fun c=>⟨by omega,fin (.mk 2 16 (mk []) []) ⟨false,a,n + 1⟩ _ (hpl _ _ c rfl ?_)⟩,fun _=>?_⟩
      · rw [iH]; simp only [hx,eq_of_beq c]; rfl
      refine ⟨fun c=>⟨by omega,fin (.mk 2 32 (mk []) []) ⟨false,a,n + 1⟩ _ (hpl _ _ c rfl ?_)⟩,fun _=>?_⟩
      · rw [iH]; simp only [hx,eq_of_beq c]; rfl
      refine ⟨fun c=>⟨by omega,fin (.mk 2 64 (mk []) []) ⟨false,a,n + 1⟩ _ (hpl _ _ c rfl ?_)⟩,fun _=>?_⟩
      · rw [iH]; simp only [hx,eq_of_beq c]; rfl
      refine ⟨fun c=>⟨by omega,fin (.mk 3 8 (mk []) []) ⟨false,a,n + 1⟩ _ (hpl _ _ c rfl ?_)⟩,fun _=>?_⟩
      · rw [iH]; simp only [hx,eq_of_beq c]; rfl
      refine ⟨fun c=>⟨by omega,fin (.mk 3 16 (mk []) []) ⟨false,a,n + 1⟩ _ (hpl _ _ c rfl ?_)⟩,fun _=>?_⟩
      · rw [iH]; simp only [hx,eq_of_beq c]; rfl
      refine ⟨fun c=>⟨by omega,fin (.mk 3 32 (mk []) []) ⟨false,a,n + 1⟩ _ (hpl _ _ c rfl ?_)⟩,fun _=>?_⟩
      · rw [iH]; simp only [hx,eq_of_beq c]; rfl
      refine ⟨fun c=>⟨by omega,?_⟩,fun _=>⟨fun c=>⟨by omega,?_⟩,fun cl=>?_⟩⟩
      · have ex:=eq_of_beq c
        refine xN (z:=⟨false,a,n + 1⟩) ht hnx.2 ?_
        simp (maxSteps:=9^6) -dsimp only [go_sem]
        refine fin (.mk 4 (dS ts ⟨false,a,n + 1⟩) (mk []) []) (dV ts ⟨false,a,n + 1⟩) _ ?_
        have hF:aQ 1 wText ts ⟨false,a,n⟩=⟨false,a,n + 1⟩:=by unfold aQ; rw [hx,ex,hnx.1]; rfl
        have hP:eR ts ⟨false,a,n⟩=(.mk 4 (dS ts ⟨false,a,n + 1⟩) (mk []) [],dV ts ⟨false,a,n + 1⟩):=by rw [iH,hF,hx,hx,ex]; rfl
        unfold dH
        simp only [hk,hx,ex,Bool.false_or,aH]
        rw [hP]; rfl
      · have ex:=eq_of_beq c
        have hF:aQ 1 b8 ts ⟨false,a,n⟩=⟨false,a,n + 1⟩:=by unfold aQ; rw [hx,ex,hnx.1]; rfl
        have hkd:dH (N + 1) ts ⟨false,a,n⟩=(.mk 5 (dS ts ⟨false,a,n + 1⟩) (mk []) [(dH N ts (hZ ts (dV ts ⟨false,a,n + 1⟩))).1],(dH N ts (hZ ts (dV ts ⟨false,a,n + 1⟩))).2):=by
         rw [JS]
         simp only [hk,hx,ex,Bool.false_or,aH]
         rw [hF]; rfl
        refine xN (z:=⟨false,a,n + 1⟩) ht hnx.2 ?_
        have n1:=lP (z:=⟨false,a,n + 1⟩) hnx.2
        have hvi:=w8 (z:=⟨false,a,n + 1⟩) ht hnx.2
        generalize dS ts ⟨false,a,n + 1⟩=v at *
        generalize dV ts ⟨false,a,n + 1⟩=z1 at *
        simp only at n1
        simp (maxSteps:=9^6) -dsimp only [go_sem]
        refine aX rfl (.done ?_)
        simp (maxSteps:=9^6) -dsimp only [go_sem,xB]
        refine mF ht n1.2 ?_
        rw [show bl (mk [111,102])=xK from rfl,TA ht n1.2]
        have n2:=tO n1.2
        generalize hZ ts z1=z2 at *
        simp (maxSteps:=9^6) -dsimp only [go_sem]
        refine aX rfl (.done ?_)
        simp (maxSteps:=9^6) -dsimp only [go_sem,wW]
        refine HY ht n2.2 (by omega) ?_
        generalize dH N ts z2=r at *
        obtain ⟨t,z3⟩:=r
        simp (maxSteps:=9^6) -dsimp only [go_sem]
        refine ⟨⟨cU t,fun c hc=>BY t c hc⟩,?_⟩
        refine .pub 2 _ _ _ rfl (.sel [0] (by simp) (by simp [b5]) rfl (.done ?_))
        have hK3:=hK2 _ _ hkd
        rw [aY] at hK3
        simp -dsimp only [go_sem,b5]
        exact hK3
      · refine aX rfl (.done ?_)
        simp (maxSteps:=9^6) -dsimp only [go_sem,wJ]
        refine KA (z:=⟨false,a,n⟩) ht hn ?_
        simp (maxSteps:=9^6) -dsimp only [go_sem]
        refine fin (.mk 6 0 (bZ true ts ⟨false,a,n⟩) []) (bM true ts ⟨false,a,n⟩) _ ?_
        unfold dH
        simp only [hk,hx,Bool.false_or,aH]
        rw [show ((aN ts n).x == b8)=false from cl,iH]
        simp only [hx,gR,wText, *,aH]
    · simp -dsimp only [go_sem]<;>simp
    · simp -dsimp only [go_sem]<;>simp
theorem B3 {k:Int} {w:List UInt8} {ts:List Tk} {z:Fs} (h:z.bad=true):aJ k w ts z=false:=by unfold aJ; rw [h]; rfl
theorem sK {ts:List Tk} {z:Fs} (h:z.bad=true):bB ts z=z:=by unfold bB; rw [h]; rfl
theorem CV (ts:List Tk) (z:Fs):(bB ts z).bad=true:=by
 unfold bB
 cases h:z.bad
 · rfl
 · exact h
theorem II {c:Bool} {ts:List Tk} {z:Fs} (h:z.bad=true):bM c ts z=z:=by unfold bM eV; rw [h]; exact sK h
theorem CD {ts:List Tk} {z:Fs} (h:∀ w,aJ 1 w ts z=false):eR ts z=(.mk 6 0 (bZ true ts z) [],bM true ts z):=by
 rw [iH]
 simp only [h,aH]
theorem LG {ts:List Tk} (ht:Tks ts):∀ (N:Nat) (z:Fs) (d:List Int) (F:Nat),z.n < ts.length->ts.length<=z.n + N->ts.length < z.n + F->
 (eR ts (gI ts F d z).2).2=(dH N ts z).2/\((dH N ts z).2.bad=false->a6 (gI ts F d z).1 (eR ts (gI ts F d z).2).1=a6 d (dH N ts z).1)
 | 0,z,d,F,h1,h2,_=>by omega
 | N + 1,z,d,F,h1,h2,h3=>by
  obtain ⟨F,rfl⟩:∃ G,F=G + 1:=⟨F - 1,by omega⟩
  rw [lB]
  unfold dH
  cases hb:z.bad with
  | true=>
   rw [B3 hb,aH,Bool.true_or,aO,CD fun w=>B3 hb,II hb,sK hb]
   exact ⟨rfl,fun q=>by rw [show z.bad=false from q] at hb; cases hb⟩
  | false=>
  cases hk:(aN ts z.n).k != 1 with
  | true=>
   have hno:∀ w,aJ 1 w ts z=false:=fun w=>by
    unfold aJ eD
    rw [bne,Bool.not_eq_true'] at hk
    rw [hk]; simp
   rw [hno,aH,Bool.false_or,aO,CD hno]
   have:bM true ts z=bB ts z:=by
    rw [bne,Bool.not_eq_true'] at hk
    unfold bM eV; rw [hk]; simp
   rw [this]
   refine ⟨rfl,fun q=>?_⟩
   have q:(bB ts z).bad=false:=q
   have q2:=CV ts z
   rw [q] at q2; cases q2
  | false=>
  rw [Bool.false_or,aH]
  cases hl:aJ 1 b8 ts z with
  | false=>
   rw [aH,aH]
   exact ⟨rfl,fun _=>rfl⟩
  | true=>
   rw [aO,aO]
   obtain ⟨g1,g2,g3⟩:=kV (by decide) ht.e h1 hl
   have e1:aQ 1 b8 ts z=⟨false,z.off,z.n + 1⟩:=by unfold aQ; rw [hl,g1]; rfl
   rw [e1]
   have n1:=lP (z:=⟨false,z.off,z.n + 1⟩) g2
   have n2:=tO n1.2
   simp only at n1
   have ih:=LG ht N (hZ ts (dV ts ⟨false,z.off,z.n + 1⟩)) (d ++ [dS ts ⟨false,z.off,z.n + 1⟩]) F n2.2 (by omega) (by omega)
   refine ⟨ih.1,fun q=>(ih.2 q).trans ?_⟩
   exact tK ..
def Of (z:Fs):Prop:=0<=z.off
theorem iK {ts:List Tk} {z:Fs} (h:Of z):Of (bB ts z):=by
 unfold bB
 cases z.bad
 · show (0:Int)<=((aN ts z.n).a:Int); omega
 · exact h
section
variable {ts:List Tk} {z:Fs} (h:Of z)
include h
theorem m4 {k:Int} {w:List UInt8}:Of (aQ k w ts z):=by unfold aQ; cases aJ k w ts z<;>exact h
theorem BA {w:List UInt8}:Of (bN w ts z):=by
 unfold bN
 cases aJ 4 w ts z
 · exact iK h
 · exact h
theorem JW {c:Bool}:Of (bM c ts z):=by
 unfold bM
 cases eV c ts z
 · exact iK h
 · exact h
theorem S1 {c:Bool}:Of (eF c ts z):=by
 unfold eF
 cases fN c ts z
 · exact iK h
 · exact h
theorem DV:Of (dV ts z):=BA (S1 (BA h))
theorem QE:Of (hZ ts z):=by
 unfold hZ
 cases aJ 1 xK ts z
 · exact iK h
 · exact h
theorem IV:∀ l:List Int,Of (kF ts z l).2
 | []=>JW h
 | s :: r=>by
  rw [kF]
  cases aJ 1 (nW s) ts z
  · cases decide (s < 64) && aJ 1 (kI s) ts z
    · exact IV r
    · exact m4 h
  · exact m4 h
theorem HM:Of (eR ts z).2:=by
 unfold eR
 cases aJ 1 gR ts z
 · cases aJ 1 wText ts z
   · exact IV h szs
   · exact DV (m4 h)
 · exact m4 h
end
theorem AO {ts:List Tk}:∀ (N:Nat) (z:Fs),Of z->Of (dH N ts z).2
 | 0,z,h=>by
  unfold dH
  cases z.bad || (aN ts z.n).k != 1
  · cases aJ 1 b8 ts z
    · exact HM h
    · exact h
  · exact iK h
 | N + 1,z,h=>by
  unfold dH
  cases z.bad || (aN ts z.n).k != 1
  · cases aJ 1 b8 ts z
    · exact HM h
    · exact AO N _ (QE (DV (m4 h)))
  · exact iK h
theorem GO {ts:List Tk}:∀ (N:Nat) (z:Fs),z.n < ts.length->z.n<=(dH N ts z).2.n/\(dH N ts z).2.n < ts.length
 | 0,z,h=>by
  unfold dH
  cases z.bad || (aN ts z.n).k != 1
  · cases aJ 1 b8 ts z
    · exact F0 h
    · exact ⟨Nat.le_refl _,h⟩
  · rw [aO,fM]; exact ⟨Nat.le_refl _,h⟩
 | N + 1,z,h=>by
  unfold dH
  cases z.bad || (aN ts z.n).k != 1
  · cases aJ 1 b8 ts z
    · exact F0 h
    · have h1:=d7 (k:=1) (w:=b8) h
      have h2:=lP h1.2
      have h3:=tO h2.2
      have h4:=GO N _ h3.2
      rw [aH,aO]
      exact ⟨by show z.n<=(dH N ts (hZ ts (dV ts (aQ 1 b8 ts z)))).2.n; omega,h4.2⟩
  · rw [aO,fM]; exact ⟨Nat.le_refl _,h⟩
def iB (ts:List Tk) (z:Fs):Ty × Fs:=dH ts.length ts z
theorem IA {ts:List Tk} {z:Fs} (ht:Tks ts) (hn:z.n < ts.length):(gV ts z).2=(iB ts z).2/\((iB ts z).2.bad=false->(gV ts z).1=(iB ts z).1):=
 LG ht ts.length z [] (ts.length + 1) hn (by omega) (by omega)
def UQ (x:List UInt8):Ty × Int × Int:=
 bif (aI x).err != 0 then (l6,(aI x).err,(aI x).off) else
 bif (jB 0 [] (aI x).toks (iB (aI x).toks ⟨false,0,0⟩).2).bad then (l6,2,((jB 0 [] (aI x).toks (iB (aI x).toks ⟨false,0,0⟩).2).off.toNat:Int)) else
 bif decide (6 < (bL (iB (aI x).toks ⟨false,0,0⟩).1).1) then (l6,9,0) else ((iB (aI x).toks ⟨false,0,0⟩).1,0,0)
theorem GZ {ts:List Tk} {z:Fs} (ht:Tks ts) (hn:z.n < ts.length) (ho:Of z):(gK ts z).bad=(jB 0 [] ts z).bad/\((jB 0 [] ts z).bad=true->(gK ts z).off=((jB 0 [] ts z).off.toNat:Int))/\((jB 0 [] ts z).bad=false->z.bad=false):=by
 have hf:=iK (ts:=ts) ho
 unfold Of at ho hf
 unfold gK jB aJ eD
 cases hb:z.bad
 · cases hk:(aN ts z.n).k == 0
   · have hk':((aN ts z.n).k != 0)=true:=by rw [bne,hk]; rfl
     rw [hk']
     simp only [Bool.not_false,Bool.true_and,Bool.false_and,aO,aH]
     refine ⟨?_,fun _=>by omega,fun _=>?_⟩<;>first | rfl | trivial
   · have hk':((aN ts z.n).k != 0)=false:=by rw [bne,hk]; rfl
     have hx:=((ht.g _ (lV hn)).e (eq_of_beq hk)).1
     rw [hk',hx]
     simp only [Bool.not_false,Bool.true_and,Bool.and_false,aH,beq_self_eq_true,aO]
     refine ⟨by first | exact hb | trivial,fun h=>(by simp at h),fun _=>?_⟩
     first | rfl | trivial
 · simp only [Bool.not_true,Bool.false_and,aH]
   rw [sK hb]
   refine ⟨by first | rfl | trivial,fun _=>by omega,fun h=>?_⟩
   rw [hb] at h; cases h
theorem V8 (x:List UInt8):l7 x=UQ x:=by
 unfold l7 UQ
 by_cases hx:(aI x).err=0
 case neg=>
  have hx':((aI x).err != 0)=true:=bne_iff_ne.2 hx
  rw [hx']; rfl
 have ht:=pO hx
 rw [hx]
 show (bif (kG (aI x).toks).2.bad then _ else _)=(bif (jB 0 [] (aI x).toks (iB (aI x).toks ⟨false,0,0⟩).2).bad then _ else _)
 generalize (aI x).toks=ts at *
 have h1:=IA (z:=⟨false,0,0⟩) ht ht.e.pos
 have h2:Of (iB ts ⟨false,0,0⟩).2:=AO _ _ (by show (0:Int)<=0; decide)
 have h3:(iB ts ⟨false,0,0⟩).2.n < ts.length:=(GO ts.length ⟨false,0,0⟩ ht.e.pos).2
 have h4:=GZ ht h3 h2
 have e:(kG ts).2=gK ts (iB ts ⟨false,0,0⟩).2:=by unfold kG; rw [h1.1]
 have e1:(kG ts).1=(gV ts ⟨false,0,0⟩).1:=rfl
 rw [e,e1]
 rw [h4.1]
 cases hb:(jB 0 [] ts (iB ts ⟨false,0,0⟩).2).bad with
 | true=>rw [aO,aO,h4.2.1 hb]
 | false=>
  rw [h1.2 (h4.2.2 hb)]
  rfl
def tF:PC:=.seq (.gh (.reg [.l 42 (.ldn 4 (.t 9)),.s (.st 4 (.t 2) (.t 42)),.q 3 (.mv (.i 0)),.q 4 (.mv (.i 0))])) .ret
@[go_sem ↓] theorem WS:bT tF:=bW _
def rB:PC:=.seq (.seq (.gh (.reg [.l 38 (.ldn 4 (.t 9)),.a 39 (.cq 57 [(.t 38)]),.q 40 (.bin .gtr true (.t 39) (.i 6))])) (.cond (.t 40) (.seq (.reg [.q 41 (.bd [(.int .i64 0),(.int .i64 0),(.string (mk [])),(.slice none 0 0)] []),.s (.st 4 (.t 2) (.t 41)),.q 3 (.mv (.i 9)),.q 4 (.mv (.i 0))]) .ret) .skip)) (tF)
@[go_sem ↓] theorem X7:bT rB:=bW _
def qY:PC:=.seq (.seq (.gh (.reg [.v 28 8,.q 29 (.nc (.t 28)),.q 30 (.fa 2 (.t 29)),.l 31 (.ld1 (.t 30)),.q 32 (.bin .geq true (.t 31) (.i 0))])) (.cond (.t 32) (.seq (.ord  [.q (.q 33 (.bd [(.int .i64 0),(.int .i64 0),(.string (mk [])),(.slice none 0 0)] [])),.q (.v 34 8),.q (.q 35 (.nc (.t 34))),.q (.q 36 (.fa 2 (.t 35))),.q (.l 37 (.ld1 (.t 36))),.m (.s (.st 4 (.t 2) (.t 33))),.rc (.v 34 8),.rc (.q 35 (.nc (.t 34))),.rc (.q 36 (.fa 2 (.t 35))),.rc (.l 37 (.ld1 (.t 36))),.m (.q 3 (.mv (.i 2))),.rc (.v 34 8),.rc (.q 35 (.nc (.t 34))),.rc (.q 36 (.fa 2 (.t 35))),.rc (.l 37 (.ld1 (.t 36))),.m (.v 4 37)]) .ret) .skip)) (rB)
@[go_sem ↓] theorem YI:bT qY:=bW _
def w7:PC:=.seq (.gh (.reg [.v 26 8,.a 27 (.cl 46 [(.t 26),(.i 0),(.k (.string (mk [])))] [1])])) (qY)
@[go_sem ↓] theorem YL:bT w7:=bW _
def w4:PC:=.seq (.gh (.reg [.v 24 8,.a 25 (.cl 56 [(.t 24)] [1]),.e 9 (.al (.agg #[(.int .i64 0),(.int .i64 0),(.string (mk [])),(.slice none 0 0)]) 37),.s (.st 4 (.t 9) (.t 25))])) (w7)
@[go_sem ↓] theorem X1:bT w4:=bW _
def LV:PC:=.seq (.reg [.e 2 (.al (.agg #[(.int .i64 0),(.int .i64 0),(.string (mk [])),(.slice none 0 0)]) 37),.q 3 (.mv (.i 0)),.q 4 (.mv (.i 0))]) (.seq (.reg [.v 11 0,.a 12 (.cl 45 [(.t 11)] []),.v 10 12,.q 13 (.ex (.t 10) 0),.q 14 (.ex (.t 10) 1),.q 15 (.ex (.t 10) 2),.v 5 13,.v 6 14,.v 7 15]) (.seq (.seq (.reg [.v 16 6,.q 17 (.bin .neq true (.t 16) (.i 0))]) (.cond (.t 17) (.seq (.reg [.q 18 (.bd [(.int .i64 0),(.int .i64 0),(.string (mk [])),(.slice none 0 0)] []),.v 19 6,.v 20 7,.s (.st 4 (.t 2) (.t 18)),.v 3 19,.v 4 20]) .ret) .skip)) (.seq (.reg [.v 21 5,.q 22 (.bd [(.slice none 0 0),(.int .i64 0),(.int .i64 0)] [(0,1,(.t 21)),(2,1,(.i (-1)))]),.e 23 (.bx 82 (.t 22)),.v 8 23]) (w4))))
def L8:List RV:=[.ld (.ldn 4 (.t 2)),.mv (.t 3),.mv (.t 4)]
theorem XI:aT Tryz.prog true ⟨fun r k=>if r=5/\k=1 then .own [1] else if r=6/\k=1 then .own [1] else if r=9/\k=1 then .q else .own [],fun r=>[5,6,7,9,11].contains r⟩ Tryz.f21=some (LV,L8):=by kernel_rfl
attribute [-go_sem] hJ
theorem K6 {t:Ty} (h:LOk t):(bL t).1 < t.h:=by
 induction h with
 | stop hk=>rw [bL,hk,Ty.h]; exact Nat.succ_pos _
 | list _ ih=>rw [bL,Ty.h,Ty.hs]; simp only [beq_self_eq_true,aO,D5]; omega
def zM (N:Nat):List S->Prop:=fun av=>match av with
 | [.va (.gs r)]=>jI r/\LOk (C.ty r)/\(C.ty r).h<=N/\N<=1000000
 | _=>False
theorem kM {N:Nat} {av:List S} (h:zM N av):∃ t,av=[.va (.gs (aP t))]/\TyOk t/\LOk t/\t.h<=N/\N<=1000000:=by
 unfold zM at h
 split at h
 · obtain ⟨⟨v,rfl,hv⟩,h1,h2,h3⟩:=h; rw [g6] at h1 h2; exact ⟨v,rfl,hv,h1,h2,h3⟩
 · exact h.elim
noncomputable def M6:List S->A:=fun av=>match av with
 | [.va (.gs r)]=>iA .i64 ((bL (C.ty r)).1:Nat)
 | _=>.gs []
noncomputable def vS (N:Nat):Fun:=⟨zM N,M6,fun av h=>by obtain ⟨_,rfl,_⟩:=kM h; trivial⟩
attribute [go_sem] vS zM M6
theorem DT:∀ N,Meets Tryz.prog 57 (vS N).sp
 | 0=>⟨by kernel_rfl,by rintro xs vs E ro w K _ _ _ ⟨⟨h,_⟩,_⟩; obtain ⟨v,_,_,_,h,_⟩:=kM h; have:=v.h_pos; omega⟩
 | N + 1=>by
  refine aF Tryz.func57 aB5 1 (by rw [Tryz.ntmps57]; decide) (aK (DT N) (aB _)) (fun av H K h=>by obtain ⟨_,rfl,_⟩:=kM h.1.1; rfl) ?_
  rintro av H K ⟨⟨h,rfl⟩,hK⟩
  obtain ⟨t,rfl,ht,hl,hh,hN⟩:=kM h
  have hK:K (iS .i64 ((bL t).1:Nat)) []:=by
   have:(vS (N + 1)).val [.va (.gs (aP t))]=iA .i64 ((bL t).1:Nat):=by show iA .i64 ((bL (C.ty (aP t))).1:Nat)=_; rw [g6]
   rw [this] at hK; exact hK
  have fin:∀ (z:Int) (R:Hp),((bL t).1:Int)=z->W.Fin 0 K (iS .i64 z) R:=fun z R h=>by
   rw [h] at hK; exact .z ((by simpa [go_sem] using hK))
  clear hK h
  cases hl with
  | @stop k s n e hk=>
   simp (maxSteps:=9^6) -dsimp only [go_sem,aP,bQ,KS,JH,bne,hk]
   exact fin 0 _ (by rw [bL,hk]; rfl)
  | @list s n u r hu=>
   have hlv:=K6 hu
   have huk:=ht.e u (List.mem_cons_self ..)
   have hle:=ht.len
   simp only [Ty.e] at hle
   have hh2:u.h<=N:=by rw [Ty.h,Ty.hs] at hh; omega
   have k1:=gQ huk
   have k2:=g6 u
   rw [aY] at k1 k2
   simp (maxSteps:=9^6) -dsimp only [go_sem,aP,bQ,KS,JH,bne,List.length_cons,forall_eq',aY u,k1,k2]
   exact ⟨by omega,⟨hu,hh2,by omega⟩,by omega,fin _ _ (by rw [bL]; simp only [beq_self_eq_true,aO,D5]; omega)⟩
def vT:W.Spec:=n5 [] (fun ts z=>.va (.gs (aP (iB ts z).1))) fun ts z=>(iB ts z).2
theorem OM:Meets Tryz.prog 56 vT:=j0 0 D1 fun _av _H _K ⟨ts,z,e1,e2,h1,h2,hK⟩=>⟨ts.length,ts,z,e1,e2,h1,h2,by omega,hK⟩
theorem O3 {ts:List Tk} {z:Fs} {K:S->Hp->Prop} (h1:Tks ts) (h2:z.n < ts.length) (hK:K (.va (.gs (aP (iB ts z).1))) (d9 ts (iB ts z).2)):vT [.va (.c1 (.pt 0 0))] (d9 ts z) K:=jX (V:=fun ts z=>.va (.gs (aP (iB ts z).1))) (F:=fun ts z=>(iB ts z).2) h1 h2 hK
theorem HH {t0:Ty} (h5:t0.k ≠ 5) (he:t0.e=[]):∀ d:List Int,LOk (a6 d t0)/\(a6 d t0).h=d.length + 1
 | []=>by
  obtain ⟨k,s,n,e⟩:=t0
  obtain rfl:e=[]:=he
  exact ⟨.stop (beq_eq_false_iff_ne.2 h5),by show (Ty.mk k s n []).h=_; rw [Ty.h,Ty.hs]; rfl⟩
 | s :: d=>by
  have ih:=HH h5 he d
  refine ⟨.list ih.1,?_⟩
  show (Ty.mk 5 s (mk []) [a6 d t0]).h=_
  rw [Ty.h,Ty.hs,Ty.hs,ih.2,List.length_cons]; omega
theorem TyP.li {t:Ty} (h:TyP t):LOk t/\t.h<=4003:=by
 obtain ⟨d,t0,rfl,_,h2,h3,_,_,h6,_⟩:=h
 have:=HH h2 h3 d
 exact ⟨this.1,by omega⟩
theorem PA {x:ByteArray} {K:S->Hp->Prop} (hK:K (.tu [.c1 (.fz ((aI (bl x)).toks.map cI)),iA .i64 (aI (bl x)).err,iA .i64 (aI (bl x)).off]) []):hJ [tS x] [] K:=by
 unfold hJ; exact hK
noncomputable def AL:cO:=[(45,.s hJ),(56,.s vT),(46,.s vH),(57,.f (vS 5000))]
theorem SJ:sp AL 45=hJ:=rfl
theorem SZ:sp AL 56=vT:=rfl
theorem SC:sp AL 46=vH:=rfl
theorem S4:iY AL 57=some (vS 5000):=rfl
attribute [local go_sem] SJ SZ SC S4
theorem OR:Meets Tryz.prog 21 oE:=by
 refine aF (Γ:=AL) Tryz.func21 XI 1 (by rw [Tryz.ntmps21]; decide) (aA QD (aA OM (aA BF (aK (DT 5000) (aB _))))) (fun av H K h=>by obtain ⟨_,rfl,_⟩:=h; rfl) ?_
 rintro av H K ⟨x,rfl,rfl,hK⟩
 rw [V8] at hK
 unfold UQ at hK
 simp (maxSteps:=9^6) -dsimp only [go_sem,LV,L8]
 refine PA ?_
 by_cases hx:(aI (bl x)).err=0
 case neg=>
  have hx':((aI (bl x)).err != 0)=true:=bne_iff_ne.2 hx
  rw [hx',aO] at hK
  simp (maxSteps:=9^6) -dsimp only [go_sem,hx']
  refine .sel [] (by simp) (by simp [b5]) rfl (.done ?_)
  simp (maxSteps:=9^6) -dsimp only [go_sem,b5]
  exact hK
 have hx':((aI (bl x)).err != 0)=false:=by rw [hx]; rfl
 rw [hx',aH] at hK
 have ht:=pO hx
 simp (maxSteps:=9^6) -dsimp only [go_sem,hx']
 generalize (aI (bl x)).toks=ts at *
 have hP:=rE (z:=⟨false,0,0⟩) ht ht.e.pos
 have hQ:=IA (z:=⟨false,0,0⟩) ht ht.e.pos
 have hn1:(iB ts ⟨false,0,0⟩).2.n < ts.length:=(GO ts.length ⟨false,0,0⟩ ht.e.pos).2
 have ho1:Of (iB ts ⟨false,0,0⟩).2:=AO _ _ (by show (0:Int)<=0; decide)
 refine aX rfl (.done ?_)
 simp (maxSteps:=9^6) -dsimp only [go_sem,w4]
 refine O3 (z:=⟨false,0,0⟩) ht ht.e.pos ?_
 generalize iB ts ⟨false,0,0⟩=r at *
 obtain ⟨t,z⟩:=r
 have hE:=GZ ht hn1 ho1
 simp only at hn1 ho1 hE hK hQ
 simp (maxSteps:=9^6) -dsimp only [go_sem,aY t]
 refine aX rfl (.done ?_)
 simp (maxSteps:=9^6) -dsimp only [go_sem,w7]
 refine mF ht hn1 ?_
 rw [show bl (mk [])=[] from rfl]
 generalize jB 0 [] ts z=y at *
 simp (maxSteps:=9^6) -dsimp only [go_sem]
 refine aX rfl (.done ?_)
 obtain ⟨b,o,n⟩:=y
 simp only at hE hK
 cases b with
 | true=>
  have hb:decide ((0:Int)<=(o.toNat:Int))=true:=decide_eq_true (by omega)
  simp (maxSteps:=9^6) -dsimp only [go_sem,qY,pJ,hb]
  refine .sel [] (by simp) (by simp [b5]) rfl (.done ?_)
  simp (maxSteps:=9^6) -dsimp only [go_sem,b5]
  exact hK
 | false=>
  have hzb:=hE.2.2 rfl
  have ht2:=hQ.2 hzb
  rw [ht2] at hP
  have hli:=hP.li
  have hlt:=K6 hli.1
  have k1:=gQ hP.ok.1
  have k2:=g6 t
  rw [aY] at k1 k2
  simp (maxSteps:=9^6) -dsimp only [go_sem,qY,kD,NG]
  refine aX rfl (.done ?_)
  cases hd:decide (6 < (bL t).1) with
  | true=>
   have hd':decide (6 < (((bL t).1:Nat):Int))=true:=by have:=of_decide_eq_true hd; simp; omega
   rw [hd] at hK
   simp (maxSteps:=9^6) -dsimp only [go_sem,rB,k1,k2,hd']
   refine ⟨⟨hli.1,by omega⟩,.sel [] (by simp) (by simp [b5]) rfl (.done ?_)⟩
   simp (maxSteps:=9^6) -dsimp only [go_sem,b5]
   exact hK
  | false=>
   have hd':decide (6 < (((bL t).1:Nat):Int))=false:=by have:=of_decide_eq_false hd; simp; omega
   rw [hd] at hK
   simp (maxSteps:=9^6) -dsimp only [go_sem,rB,k1,k2,hd']
   refine ⟨⟨hli.1,by omega⟩,aX rfl (.done ?_)⟩
   simp (maxSteps:=9^6) -dsimp only [go_sem,tF]
   refine .sel [] (by simp) (by simp [b5]) rfl (.done ?_)
   simp (maxSteps:=9^6) -dsimp only [go_sem,b5]
   simp only [aH,aY t] at hK
   exact hK
end Go.Proofs.YtgogpogophflhaaGreatDoor
namespace Go.Proofs.YtgogpogophflhaaGreatDoor
open Go.W
structure TyG (t:Ty):Prop where
 x:dU 6 t ≠ []
 o:TyOk t
section
variable {ts:List Tk} {n:Nat} {o:Int} {R:List NC}
end
theorem U1 {x:List UInt8} (h:fR x=true):kC x=true:=by
 unfold fR at h
 rw [Bool.and_eq_true] at h
 cases x with
 | nil=>exact absurd h.2 (by simp)
 | cons c r=>
  have h2:(decide (65<=(c.toNat:Int)) && decide ((c.toNat:Int)<=90))=true:=h.2
  rw [Bool.and_eq_true,decide_eq_true_eq,decide_eq_true_eq] at h2
  show (decide (65<=c) && decide (c<=90))=true
  rw [Bool.and_eq_true,decide_eq_true_eq,decide_eq_true_eq,UInt8.le_iff_toNat_le,UInt8.le_iff_toNat_le]
  have e1:(65:UInt8).toNat=65:=rfl
  have e2:(90:UInt8).toNat=90:=rfl
  omega
section
variable {ts:List Tk} {n:Nat} {o:Int} {R:List NC}
def ZJ (f:Fl):Fl:=⟨f.num,f.nm,YA f.ty,f.opt⟩
end
def stS (t:St):St:=⟨t.nm,t.fs.map ZJ⟩
structure Bk (s:Sc):Prop where
 g:ScG s
 x:∀ t ∈ s.ss,∀ f ∈ t.fs,TyG f.ty
 r:s.ss.map (fun t=>mV (s.es.map En.nm) (stS t))=s.ss
def txA:List UInt8:=[118,101,114,115,105,111,110,32,50,59,32,115,116,114,117,99,116,32,65,32,123,32,49,32,98,58,32,66,59,32,125,32,101,110,117,109,32,66,32,123,32,99,32,61,32,48,32,125]
def txB:List UInt8:=[118,101,114,115,105,111,110,32,49]
def exA:Sc:=⟨2,[⟨mk [66],[mk [99]],[0]⟩],[⟨mk [65],[⟨1,mk [98],.mk 7 0 (mk [66]) [],false⟩]⟩]⟩
def HR:Ty:=.mk 5 4 (mk []) [.mk 4 16 (mk []) []]
theorem S2:zZ txA=(exA,0,0):=by kernel_rfl
theorem aBL:zZ txB=(IR,2,9):=by kernel_rfl
theorem ZI:dU 6 HR=[108,105,115,116,91,52,93,32,111,102,32,116,101,120,116,91,49,54,93]:=by kernel_rfl
theorem aAT:m7 exA=[118,101,114,115,105,111,110,32,50,59,10,101,110,117,109,32,66,32,123,32,99,32,61,32,48,32,125,10,115,116,114,117,99,116,32,65,32,123,10,32,32,49,32,98,58,32,66,59,10,125,10]:=by kernel_rfl
theorem NV:exA.fit:=by
 have h:=S2
 have hP:ScP exA:=⟨⟨by decide,by decide⟩,by decide,by decide,fun e he=>by
  rw [List.mem_singleton.1 he]
  exact ⟨by decide,by decide,by decide,fun n hn=>by rw [List.mem_singleton.1 hn]; decide,fun n hn=>by rw [List.mem_singleton.1 hn]; exact ⟨by decide,by decide⟩⟩,fun t ht=>by
  rw [List.mem_singleton.1 ht]
  exact ⟨by decide,by decide,fun f hf=>by
   rw [List.mem_singleton.1 hf]
   exact ⟨⟨by decide,by decide⟩,by decide,⟨[],_,rfl,⟨by decide,by decide⟩,by decide,rfl,by decide,⟨by decide,by decide⟩,by decide,fun s hs=>by cases hs⟩⟩⟩⟩
 exact hP.fit
theorem TZ:TyOk HR:=.mk ⟨by decide,by decide⟩ ⟨by decide,by decide⟩ (by decide) (by decide) fun u hu=>by
 rw [List.mem_singleton.1 hu]
 exact .mk ⟨by decide,by decide⟩ ⟨by decide,by decide⟩ (by decide) (by decide) fun u hu=>by cases hu
theorem HW {x:ByteArray} {r:Sc × Int × Int} {K:S->Hp->Prop} (h:zZ (bl x)=r) (hK:K (.tu [.gs (aR r.1),iA .i64 r.2.1,iA .i64 r.2.2]) []):nV [tS x] [] K:=⟨x,rfl,rfl,by rw [h]; exact hK⟩
noncomputable def MZ:cO:=[(12,.s nV),(16,.f txFn),(10,.f fmFn)]
theorem RS:sp MZ 12=nV:=rfl
theorem P9:iY MZ 16=some txFn:=rfl
theorem SS:iY MZ 10=some fmFn:=rfl
attribute [local go_sem] RS P9 SS
theorem OB:Meets Tryz.prog 11 qTrue.sp:=by
 refine aF (Γ:=MZ) Tryz.func11 aBU 0 (by rw [Tryz.ntmps11]; decide) (aA T5 (aK B5 (aK O8 (aB _)))) HP ?_
 rintro av H K ⟨⟨h,rfl⟩,hK⟩
 obtain rfl:av=[]:=h
 have hK:K (bS true) []:=hK
 have fin:∀ R:Hp,W.Fin 0 K (bS true) R:=fun R=>.z ((by simpa [go_sem] using hK))
 clear hK
 simp (maxSteps:=9^6) -dsimp only [go_sem,SX,P8]
 refine HW S2 ?_
 simp (maxSteps:=9^6) -dsimp only [go_sem,exA,aR,List.map_cons,List.map_nil]
 refine aX rfl (.done ?_)
 simp (maxSteps:=9^6) -dsimp only [go_sem,zP]
 refine HW aBL ?_
 simp (maxSteps:=9^6) -dsimp only [go_sem,IR,aR,List.map_cons,List.map_nil]
 have g1:((0:Int) != 0)=false:=rfl
 have g2:((2:Int) != 2)=false:=rfl
 have g3:((9:Int) != 9)=false:=rfl
 have g4:((1:Int) != 1)=false:=rfl
 refine bK (up:=[(1,.va (.c1 (.pt 0 0))),(2,iS .i64 0),(5,iS .i64 2),(6,iS .i64 9)]) (Hs:=[.cells [.vl (.int .i64 2),.fz [[.vl (.string (mk [66])),.fz [cQ (mk [99])],.fz [iQ 0]]],.fz [[.vl (.string (mk [65])),.fz [[.vl (.int .i64 1),.vl (.string (mk [98])),.vl (.int .i64 7),.vl (.int .i64 0),.vl (.string (mk [66])),.fz [],.vl (.bool false)]]]]] 25]) 1 ?_ ?_ ?_
 · simp (maxSteps:=9^6) -dsimp only [go_sem,B8,g1,g2,g3,g4,List.length_cons,List.length_nil,Nat.zero_add,Int.ofNat_one,forall_eq']
   refine ⟨by decide,?_⟩
   refine bK (up:=[(1,.va (.c1 (.pt 0 0)))]) (Hs:=[.cells [.vl (.int .i64 2),.fz [[.vl (.string (mk [66])),.fz [cQ (mk [99])],.fz [iQ 0]]],.fz [[.vl (.string (mk [65])),.fz [[.vl (.int .i64 1),.vl (.string (mk [98])),.vl (.int .i64 7),.vl (.int .i64 0),.vl (.string (mk [66])),.fz [],.vl (.bool false)]]]]] 25]) 1 ?_ ?_ ?_
   · simp (maxSteps:=9^6) -dsimp only [go_sem,BT]
     refine aX rfl (.opn 1 _ _ _ rfl (.nfr 1 _ _ _ rfl (.shu 1 _ _ _ rfl ?_ (.pub 1 _ _ _ rfl (.done ?_)))))
     · simp [C.nf,C.shut]
     have k1:jI [.vl (.int .i64 5),.vl (.int .i64 4),.vl (.string (mk [])),.fz [[.vl (.int .i64 4),.vl (.int .i64 16),.vl (.string (mk [])),.fz []]]]:=gQ (t:=HR) TZ
     have k2:C.ty [.vl (.int .i64 5),.vl (.int .i64 4),.vl (.string (mk [])),.fz [[.vl (.int .i64 4),.vl (.int .i64 16),.vl (.string (mk [])),.fz []]]]=HR:=g6 HR
     have k3:zF [.vl (.int .i64 2),.fz [[.vl (.string (mk [66])),.fz [cQ (mk [99])],.fz [iQ 0]]],.fz [[.vl (.string (mk [65])),.fz [[.vl (.int .i64 1),.vl (.string (mk [98])),.vl (.int .i64 7),.vl (.int .i64 0),.vl (.string (mk [66])),.fz [],.vl (.bool false)]]]]]:=KI (s:=exA) NV
     have k4:C.sc [.vl (.int .i64 2),.fz [[.vl (.string (mk [66])),.fz [cQ (mk [99])],.fz [iQ 0]]],.fz [[.vl (.string (mk [65])),.fz [[.vl (.int .i64 1),.vl (.string (mk [98])),.vl (.int .i64 7),.vl (.int .i64 0),.vl (.string (mk [66])),.fz [],.vl (.bool false)]]]]]=exA:=pU exA
     have e7:((7:Int) == 7)=true:=rfl
     simp (maxSteps:=9^6) -dsimp only [go_sem,b5,C.nf,C.pub,B4,forall_eq',k1,k2,k3,k4,e7,ZI,aAT,Bool.true_and,beq_self_eq_true]
     exact ⟨by decide,by decide,fin _⟩
   · simp -dsimp only [go_sem]<;>simp
   · simp -dsimp only [go_sem]<;>simp
 · simp -dsimp only [go_sem]<;>simp
 · simp -dsimp only [go_sem]<;>simp [bC,aV,bU]
   exact ⟨rfl,rfl,rfl,rfl⟩
noncomputable def eqB {α:Type} (a b:α):Bool:=@decide (a=b) (Classical.propDecidable _)
theorem B7:∀ N,Meets Tryz.prog 19 (GB N).sp
 | 0=>⟨by kernel_rfl,by rintro xs vs E ro w K _ _ _ ⟨⟨h,_⟩,_⟩; obtain ⟨a,_,_,_,_,h⟩:=kO h; have:=a.h_pos; omega⟩
 | N + 1=>by
  refine aF Tryz.func19 ZE 2 (by rw [Tryz.ntmps19]; decide) (aK (B7 N) (aB _)) JK ?_
  rintro av H K ⟨⟨h,rfl⟩,hK⟩
  obtain ⟨a,b,rfl,ha,hb,hh⟩:=kO h
  have hK:K (bS (oX a b)) []:=by
   have:(GB (N + 1)).val [.va (.gs (aP a)),.va (.gs (aP b))]=bA (oX a b):=by simp -dsimp only [go_sem]
   rw [this] at hK; exact hK
  clear h
  have fin:∀ (x:Bool) (R:Hp),oX a b=x->W.Fin 0 K (bS x) R:=fun x R h=>by
   rw [h] at hK
   exact .z ((by simpa [go_sem] using hK))
  obtain ⟨k,s,n,e⟩:=a
  obtain ⟨k',s',n',e'⟩:=b
  have hla:=ha.len
  have hoa:=ha.e
  have hob:=hb.e
  simp only [Ty.e] at hla hoa hob
  simp (maxSteps:=9^6) -dsimp only [go_sem,aP,bQ,P7,TI,jY]
  refine ⟨fun h1=>fin false _ (HF fun he=>?_),fun h1=>?_⟩
  · obtain ⟨rfl,rfl,rfl,rfl⟩:=EV.1 he
    simp at h1
  simp only [Bool.or_eq_false_iff,bne_eq_false_iff_eq,Bool.not_eq_false',decide_eq_true_eq] at h1
  obtain ⟨⟨⟨rfl,rfl⟩,rfl⟩,hl⟩:=h1
  have hl:e.length=e'.length:=by omega
  refine a7 (α:=Nat) (fun i=>[(2,.va (.c1 (.pt 0 0))),(3,.va (.c1 (.pt 1 0))),(5,iS .i64 i)]) (fun i=>[.cells (aP (.mk k s n e)) 37,.cells (aP (.mk k s n e')) 37])
   (fun i=>i<=e.length/\∀ j,j < i->e[j]? = e'[j]?) (fun i=>e.length - i) 0 2 ⟨Nat.zero_le _,fun j hj=>by omega⟩ ?_ ?_ ?_
  · simp -dsimp only [go_sem]<;>simp
  · simp -dsimp only [go_sem,aP,bQ]<;>simp
  rintro i ⟨hi,ho⟩
  rcases cM i e.length with hlt | hge
  · have hg:decide ((i:Int) < (e.length:Int))=true:=by simp; omega
    obtain ⟨u,hx⟩:∃ t,e[i]? = some t:=⟨_,a8 hlt⟩
    obtain ⟨v,hy⟩:∃ t,e'[i]? = some t:=⟨_,a8 (by omega)⟩
    have q1:=bH (row:=aP) hx
    have q2:=bH (row:=aP) hy
    have hu:jI (aP u):=gQ (hoa u (b6 hx))
    have hv:jI (aP v):=gQ (hob v (b6 hy))
    have huh:u.h<=N:=by have:=Ty.hs_mem (b6 hx); rw [Ty.h] at hh; omega
    simp (maxSteps:=9^6) -dsimp only [go_sem,hg,aP,bQ]
    simp (maxSteps:=9^6) -dsimp only [go_sem,cU,hu,hv,hx,hy,aC,forall_eq']
    refine ⟨by omega,by omega,huh,fun h1=>fin false _ (HF fun he=>?_),fun h1=>?_⟩
    · obtain ⟨_,_,_,rfl⟩:=EV.1 he
      rw [hx] at hy
      rw [AD (aZ hy)] at h1
      simp at h1
    · have h1:u=v:=PL.1 (by simpa using h1)
      subst h1
      refine ⟨by omega,aD (i + 1) 2 ⟨by omega,fun j hj=>?_⟩ (by omega) ?_ ?_⟩
      · rcases cM j i with h4 | h4
        · exact ho j h4
        · obtain rfl:j=i:=by omega
          rw [hx,hy]
      · simp -dsimp only [go_sem]<;>simp
      · simp -dsimp only [go_sem,aP,bQ]<;>simp
  · have hg:decide ((i:Int) < (e.length:Int))=false:=by simp; omega
    obtain rfl:i=e.length:=by omega
    simp (maxSteps:=9^6) -dsimp only [go_sem,hg,aP,bQ]
    refine fin true _ (AD ?_)
    rw [EV]
    refine ⟨rfl,rfl,rfl,List.ext_getElem? fun j=>?_⟩
    rcases cM j e.length with h4 | h4
    · exact ho j h4
    · rw [List.getElem?_eq_none h4,List.getElem?_eq_none (by omega)]
theorem PP:Meets Tryz.prog 19 sFn.sp:=j0 0 B7 fun av H K ⟨⟨h,e⟩,hK⟩=>by
 obtain ⟨a,b,rfl,ha,hb⟩:=xY h
 exact ⟨a.h,⟨⟨⟨gQ ha,gQ hb,by rw [g6]; exact Nat.le_refl _⟩,e⟩,hK⟩⟩
theorem DL (ts:List Tk) (z:Fs):0<=dS ts z:=by
 unfold dS eL
 cases h:fN true ts (bN [91] ts z)
 · exact Int.le_refl 0
 · unfold fN at h
   simp only [Bool.not_true,Bool.false_or,Bool.and_eq_true,decide_eq_true_eq] at h
   exact h.2.2
theorem IL {ts:List Tk}:∀ (f:Nat) (d:List Int) (z:Fs),(∀ s ∈ d,0<=s)->∀ s ∈ (gI ts f d z).1,0<=s
 | 0,d,z,h=>h
 | f + 1,d,z,h=>by
  rw [lB]
  cases aJ 1 b8 ts z
  · exact h
  · exact IL f _ _ fun s hs=>by
     rcases List.mem_append.1 hs with hs | hs
     · exact h s hs
     · rw [List.mem_singleton.1 hs]; exact DL _ _
theorem PK {ts:List Tk} {z:Fs} (ht:Tks ts) (hn:z.n < ts.length) (h:(bM true ts z).bad=false):bX (bl (bZ true ts z))=true/\kC (bl (bZ true ts z))=true:=by
 have hb:eV true ts z=true:=by
  cases hb:eV true ts z with
  | true=>rfl
  | false=>
   unfold bM at h
   rw [hb,aH,CV] at h; cases h
 have hv:bl (bZ true ts z)=(aN ts z.n).x:=by unfold bZ; rw [hb]; rfl
 have h2:=AJ ht hn
 rw [hb] at h2
 have h3:fR (aN ts z.n).x=true:=by
  have:=h2.symm
  rw [Bool.and_eq_true,Bool.and_eq_true] at this
  exact this.2.2
 rw [hv]
 exact ⟨AU h3,U1 h3⟩
theorem SW {ts:List Tk} {z:Fs} (ht:Tks ts) (hn:z.n < ts.length) (h:(eR ts z).2.bad=false):iP (eR ts z).1 ≠ []:=by
 rw [iH] at h ⊢
 revert h
 have hi:∀ n,n=8\/n=16\/n=32\/n=64->iP (.mk 2 n (mk []) []) ≠ []:=fun n hn h=>by
  have e:iP (.mk 2 n (mk []) [])=wInt ++ cD n:=by rcases hn with rfl | rfl | rfl | rfl<;>rfl
  rw [e] at h; simp [wInt] at h
 have hu:∀ n,n=8\/n=16\/n=32->iP (.mk 3 n (mk []) []) ≠ []:=fun n hn h=>by
  have e:iP (.mk 3 n (mk []) [])=wUint ++ cD n:=by rcases hn with rfl | rfl | rfl<;>rfl
  rw [e] at h; simp [wUint] at h
 cases aJ 1 gR ts z
 case true=>exact fun _ h=>(by cases h)
 cases aJ 1 wText ts z
 case true=>
  intro _ h
  have e:iP (.mk 4 (dS ts (aQ 1 wText ts z)) (mk []) [])=wText ++ [91] ++ cD (dS ts (aQ 1 wText ts z)) ++ [93]:=by
   show (bif decide (0<=dS ts (aQ 1 wText ts z)) && _ then _ else _)=_
   rw [decide_eq_true (DL _ _)]; rfl
  have h:iP (.mk 4 (dS ts (aQ 1 wText ts z)) (mk []) [])=[]:=h
  rw [e] at h; simp [wText] at h
 cases aJ 1 [105,110,116,56] ts z
 case true=>exact fun _=>hi 8 (by decide)
 cases aJ 1 [117,105,110,116,56] ts z
 case true=>exact fun _=>hu 8 (by decide)
 cases aJ 1 [105,110,116,49,54] ts z
 case true=>exact fun _=>hi 16 (by decide)
 cases aJ 1 [117,105,110,116,49,54] ts z
 case true=>exact fun _=>hu 16 (by decide)
 cases aJ 1 [105,110,116,51,50] ts z
 case true=>exact fun _=>hi 32 (by decide)
 cases aJ 1 [117,105,110,116,51,50] ts z
 case true=>exact fun _=>hu 32 (by decide)
 cases aJ 1 [105,110,116,54,52] ts z
 case true=>exact fun _=>hi 64 (by decide)
 intro h hx
 have h:(bM true ts z).bad=false:=h
 obtain ⟨h1,h2⟩:=PK ht hn h
 have hx:(bif (0:Int) == 0 && bX (bl (bZ true ts z)) && kC (bl (bZ true ts z)) then bl (bZ true ts z) else [])=[]:=hx
 rw [h1,h2] at hx
 rw [show bl (bZ true ts z)=[] from hx] at h1
 cases h1
theorem EF {t0:Ty} (h0:iP t0 ≠ []) (h5:t0.k ≠ 5):∀ (f:Nat) (d:List Int),d.length<=f->(∀ s ∈ d,0<=s)->dU f (a6 d t0) ≠ []
 | f,[],_,_=>by
  show dU f t0 ≠ []
  rw [tW (beq_eq_false_iff_ne.2 h5)]; exact h0
 | 0,s :: d,h,_=>by simp at h
 | f + 1,s :: d,h,hs=>by
  have ih:=EF h0 h5 f d (by simpa using h) fun x hx=>hs x (List.mem_cons_of_mem _ hx)
  have h1:=hs s (List.mem_cons_self ..)
  intro q
  have q:dU (f + 1) (.mk 5 s (mk []) [a6 d t0])=[]:=q
  rw [oG (by rfl)] at q
  have q:(bif (decide (s < 0) || !(bl (mk []) == []) || (([a6 d t0]:List Ty).length:Int) != 1) then [] else bif dU f (a6 d t0) == [] then [] else pY s ++ dU f (a6 d t0))=[]:=q
  have q1:(decide (s < 0) || !(bl (mk []) == []) || (([a6 d t0]:List Ty).length:Int) != 1)=false:=by
   rw [decide_eq_false (show ¬ s < 0 by omega)]; rfl
  have q2:(dU f (a6 d t0) == [])=false:=beq_eq_false_iff_ne.2 ih
  rw [q1,q2] at q
  simp [pY] at q
structure PtG (x:List UInt8):Prop where
 o:TyOk (l7 x).1
 t:(l7 x).2.1=0->dU 6 (l7 x).1 ≠ []
theorem AX:TyOk l6:=.mk tJ tJ (by decide) (by simp) fun u hu=>by cases hu
theorem N2 (x:List UInt8):PtG x:=by
 by_cases hx:(aI x).err=0
 case neg=>
  have hx':((aI x).err != 0)=true:=bne_iff_ne.2 hx
  have e:l7 x=(l6,(aI x).err,(aI x).off):=by unfold l7; rw [hx']; rfl
  constructor
  · rw [e]; exact AX
  · rw [e]; exact fun h=>absurd h hx
 have ht:=pO hx
 have e:l7 x=bif (kG (aI x).toks).2.bad then (l6,2,(kG (aI x).toks).2.off) else bif decide (6 < (bL (kG (aI x).toks).1).1) then (l6,9,0) else ((kG (aI x).toks).1,0,0):=by unfold l7; rw [hx]; rfl
 generalize (aI x).toks=ts at *
 cases hb:(kG ts).2.bad with
 | true=>
  rw [hb,aO] at e
  constructor
  · rw [e]; exact AX
  · rw [e]; exact fun h=>by cases h
 | false=>
 rw [hb,aH] at e
 have hP:=rE (z:=⟨false,0,0⟩) ht ht.e.pos
 cases hd:decide (6 < (bL (kG ts).1).1) with
 | true=>
  rw [hd,aO] at e
  constructor
  · rw [e]; exact AX
  · rw [e]; exact fun h=>by cases h
 | false=>
  rw [hd,aH] at e
  have h1:=zE (ts.length + 1) [] ⟨false,0,0⟩ ht.e.pos
  have hb2:(gV ts ⟨false,0,0⟩).2.bad=false:=by
   have hb:(gK ts (gV ts ⟨false,0,0⟩).2).bad=false:=hb
   unfold gK at hb
   cases q:(gV ts ⟨false,0,0⟩).2.bad with
   | false=>rfl
   | true=>rw [q] at hb; rw [show (gV ts ⟨false,0,0⟩).2.bad=false from hb] at q; cases q
  have hf:=CO (ts:=ts) (z:=(gI ts (ts.length + 1) [] ⟨false,0,0⟩).2)
  have hlv:(bL (kG ts).1).1=(gI ts (ts.length + 1) [] ⟨false,0,0⟩).1.length:=by
   show (bL (a6 (gI ts (ts.length + 1) [] ⟨false,0,0⟩).1 (eR ts (gI ts (ts.length + 1) [] ⟨false,0,0⟩).2).1)).1=_
   rw [s9 hf.1]
  constructor
  · rw [e]; exact hP.ok.1
  · rw [e]; intro _
    exact EF (SW ht h1.2 hb2) hf.1 6 _ (by have:=of_decide_eq_false hd; omega) (IL _ _ _ fun s hs=>by cases hs)
def zJ:List S->Prop:=fun av=>match av with
 | [.va (.c1 (.vl (.string x)))]=>x.size<=9223372036854775807
 | _=>False
theorem uI {av:List S} (h:zJ av):∃ x:ByteArray,av=[tS x]:=by
 unfold zJ at h
 split at h
 · exact ⟨_,rfl⟩
 · exact h.elim
def lzFn:Fun:=⟨zJ,fun _=>bA true,fun _ _=>trivial⟩
attribute [go_sem] lzFn zJ
noncomputable def vX:cO:=[(18,.s oE),(21,.s oE),(19,.f sFn),(16,.f txFn),(11,.f qTrue)]
theorem QC:sp vX 18=oE:=rfl
theorem SF:sp vX 21=oE:=rfl
theorem R4:iY vX 19=some sFn:=rfl
theorem TK:iY vX 16=some txFn:=rfl
theorem UB:iY vX 11=some qTrue:=rfl
attribute [local go_sem] QC SF R4 TK UB
theorem DG {x:ByteArray} {r:Ty × Int × Int} {K:S->Hp->Prop} (h:l7 (bl x)=r) (hK:K (.tu [.gs (aP r.1),iA .i64 r.2.1,iA .i64 r.2.2]) []):oE [tS x] [] K:=⟨x,rfl,rfl,by rw [h]; exact hK⟩
theorem FR:Meets Tryz.prog 7 lzFn.sp:=by
 refine aF (Γ:=vX) Tryz.func7 ok7 1 (by rw [Tryz.ntmps7]; decide) (aA O4 (aA OR (aK PP (aK B5 (aK OB (aB _)))))) (fun av H K h=>by obtain ⟨_,rfl⟩:=uI h.1.1; rfl) ?_
 rintro av H K ⟨⟨h,rfl⟩,hK⟩
 obtain ⟨x,rfl⟩:=uI h
 have hK:K (bS true) []:=hK
 clear h
 have fin:∀ R:Hp,W.Fin 0 K (bS true) R:=fun R=>.z ((by simpa [go_sem] using hK))
 clear hK
 have hG:=N2 (bl x)
 generalize hr:l7 (bl x)=r
 have ho:=hG.o
 have htx:=hG.t
 rw [hr] at ho htx
 obtain ⟨t,e,a⟩:=r
 simp only at ho htx
 simp (maxSteps:=9^6) -dsimp only [go_sem,YB,YR]
 refine DG hr ?_
 simp (maxSteps:=9^6) -dsimp only [go_sem,aY t]
 refine aX rfl (.done ?_)
 simp (maxSteps:=9^6) -dsimp only [go_sem,F5]
 refine DG hr ?_
 simp (maxSteps:=9^6) -dsimp only [go_sem,aY t]
 refine aX rfl (.done ?_)
 have k1:=gQ ho
 have k2:=g6 t
 rw [aY] at k1 k2
 have s3:oX t t=true:=AD rfl
 simp (maxSteps:=9^6) -dsimp only [go_sem,F3,k1,k2,s3,beq_self_eq_true]
 have hz:(e != 0 || !(dU 6 t == []))=true:=by
  by_cases he:e=0
  · rw [show (dU 6 t == [])=false from beq_eq_false_iff_ne.2 (htx he)]; simp
  · rw [show (e != 0)=true from bne_iff_ne.2 he]; rfl
 rw [hz]
 exact fin _
end Go.Proofs.YtgogpogophflhaaGreatDoor
namespace Go.W
open Go.RowKit
def lD (W:World):RO:=⟨fun b off=>W.cell? ⟨b,off,none⟩,fun _=>0⟩
theorem RU (W:World):∀ (b off:Nat) (v:Value),lD W b off=some v->W.cell? ⟨b,off,none⟩=some v:=fun _ _ _ h=>h
theorem RL (ro:RO):FzR ro [] (.slice none 0 0):=
 FzR.mk [] 1 none none (fun h=>absurd rfl h) 0 (fun _=>.bool true) (by simp) (by simp) (by simp) (by simp) (by simp) (by simp) (by simp) (by simp)
def n6 (P:Program):Bool:=(List.range P.types.size).all fun t=>match P.underlying t with | some (.slice e)=>decide (0 < P.cellsOf e) | _=>true
section
variable {H:Type} {enc:TypeId × Value->H} {P:Program}
theorem IK {W W':World} (h:Stay W W') {p:MemPlace} (hp:p.block < W.heap.size):W.sameAt W' p:=by
 cases p with
 | cell b off=>exact h.cell (a:=⟨b,off,none⟩) hp
 | map b=>exact h.keep b hp
theorem pT {W W':World} {sp:Nat->Bool} (hl:laidOutB P=true) (hm:mapsRowed P=true) (hs:n6 P=true) (hst:Stay W W') :
 ∀ {ts:List TypeId} {vs:List Value} {ds:List (DataW H)} {ps:List MemPlace},(∀ t ∈ ts,t < P.types.size)->DataW.TrodAll enc P W 0 (fun _=>true) true ts vs ds ps->(∀ p ∈ ps,p.block < W.heap.size)->(∀ p ∈ ps,sp p.block=true)->
  DataW.TrodAll enc P W' 0 sp true ts vs ds ps
 | [],[],[],ps,_,h,_,_=>h
 | t :: ts,v :: vs,d :: ds,ps,ht,h,hb,hp=>by
  obtain ⟨p,q,⟨n,h1⟩,h2,rfl⟩:=h
  have hsz:∀ {t e:TypeId},t < P.types.size->P.underlying t=some (.slice e)->0 < P.cellsOf e:=fun {t e} ht hu=>by
   have:=List.all_eq_true.1 hs t (List.mem_range.2 ht)
   rw [hu] at this
   simpa using this
  exact ⟨p,q,⟨n,DataW.trod_stays (T:=(· < P.types.size)) (kids_rows hl hm) hsz (fun h=>by cases h) (ht t (by simp)) h1 (fun x hx=>IK hst (hb x (by simp [hx]))) (fun x hx=>hp x (by simp [hx]))⟩,
   pT hl hm hs hst (fun u hu=>ht u (by simp [hu])) h2 (fun x hx=>hb x (by simp [hx])) (fun x hx=>hp x (by simp [hx])),rfl⟩
 | [],_ :: _,_,_,_,h,_,_=>h.elim
 | [],[],_ :: _,_,_,h,_,_=>h.elim
 | _ :: _,[],_,_,_,h,_,_=>h.elim
 | _ :: _,_ :: _,[],_,_,h,_,_=>h.elim
theorem KH {f:Func} {s:ChangeSpec} {apart fresh handsOn again:Bool} {W W':World} {args:Array Value} {ds gs:List (DataW H)} {before:List MemPlace} {tb:TypeId}
 (hl:laidOutB P=true) (hm:mapsRowed P=true) (hsr:n6 P=true) (hps:∀ t ∈ f.params.toList,t < P.types.size) (hrt:f.resultTypes=#[tb]) (htb:P.underlying tb=some .bool)
 (hvars:s.vars=[]) (hW:DataW.Whole enc P f.params.toList s.vars apart W args.toList ds gs before) (hfn:s.fn H (ds ++ gs)={ results:=[.lit (.bool true)],args:=ds,vars:=[] }) (hst:Stay W W') :
 s.post enc P f apart fresh handsOn again W args (.bool true) W':=by
 have hlt:∀ p ∈ before,p.block < W.heap.size:=fun p hp=>hW.lt p hp
 obtain ⟨p,q,hA,hV,hb,_,_⟩:=id hW
 have hq:q=[]:=by
  rw [hvars] at hV
  cases gs with
  | nil=>exact hV
  | cons g gs=>exact hV.elim
 subst hq
 have hbp:before=p:=by rw [hb]; simp
 refine AS (pa:=p) (pv:=[]) hW (fun b sp hd=>?_) (fun sp hsp=>?_) (fun sp hsp=>?_) hb hst ?_
 · rw [hrt,hfn]
   exact ⟨[],[],⟨1,by simp [DataW.trod,Value.cells,htb]⟩,rfl,rfl⟩
 · rw [hfn]
   rw [hbp] at hlt hsp
   exact pT hl hm hsr hst hps hA hlt hsp
 · rw [hfn,hvars]; rfl
 · intro j t r h1 h2
   rw [hrt] at h1 h2
   match j with
   | 0=>
    cases h1
    cases h2
    simp [Value.okWide,Cell.okWide,Cell.ok,htb]
   | j + 1=>cases h1
end
open Go.RowKit
inductive Fit (P:Program):TypeId->List C->Prop
 | int {t:TypeId} {k:IntKind} {n:Int}:P.underlying t=some (.int k)->(Lit.int k n).wf=true->Fit P t [.vl (.int k n)]
 | bool {t:TypeId} {b:Bool}:P.underlying t=some .bool->Fit P t [.vl (.bool b)]
 | str {t:TypeId} {s:ByteArray}:P.underlying t=some .string->s.size<=maxLen->Fit P t [.vl (.string s)]
 | sl {t e:TypeId} {xs:List (List C)}:P.underlying t=some (.slice e)->xs.length<=maxLen->(∀ r ∈ xs,Fit P e r)->Fit P t [.fz xs]
 | st {t:TypeId} {fs:Array Field} {parts:List (List C)}:P.underlying t=some (.struct fs)->parts.length=fs.size->(∀ (i:Nat) (f:Field) (p:List C),fs[i]? = some f->parts[i]? = some p->Fit P f.type p)->Fit P t parts.flatten
section
variable {P:Program} {t e:TypeId} {xs:List C}
theorem Fit.inv_str (ht:P.underlying t=some .string) (h:Fit P t xs):∃ s:ByteArray,xs=[.vl (.string s)]/\s.size<=maxLen:=by
 cases h with
 | int h1 h2=>rw [ht] at h1; cases h1
 | bool h1=>rw [ht] at h1; cases h1
 | str h1 h2=>exact ⟨_,rfl,h2⟩
 | sl h1=>rw [ht] at h1; cases h1
 | st h1=>rw [ht] at h1; cases h1
end
theorem Fit.rows {P:Program} {e:TypeId} {α:Type} {row:α->List C} {Q:α->Prop} {ys:List (List C)} (hi:∀ r,Fit P e r->∃ a,r=row a/\Q a) (h:∀ r ∈ ys,Fit P e r):∃ l:List α,ys=l.map row/\∀ a ∈ l,Q a:=by
 induction ys with
 | nil=>exact ⟨[],rfl,fun a h=>by cases h⟩
 | cons r ys ih=>
  obtain ⟨l,h1,h2⟩:=ih fun r hr=>h r (List.mem_cons_of_mem _ hr)
  obtain ⟨a,h3,h4⟩:=hi r (h r (by simp))
  refine ⟨a :: l,by rw [h1,h3]; rfl,fun x hx=>?_⟩
  rcases List.mem_cons.1 hx with rfl | hx
  · exact h4
  · exact h2 x hx
def CX (P:Program):Nat->List Field->Option Nat
 | o,[]=>some o
 | o,f :: r=>if f.offset=o then CX P (o + P.cellsOf f.type) r else none
def F8 (P:Program) (ts:List TypeId):Bool:=ts.all fun t=>match P.underlying t with
 | some (.int _) | some .bool | some .string=>true
 | some (.slice e)=>ts.contains e && decide (0 < P.cellsOf e)
 | some (.struct fs)=>fs.toList.all (fun f=>ts.contains f.type) && CX P 0 fs.toList == some (P.cellsOf t)
 | _=>false
theorem SB {P:Program} {R:C->Value->Prop} {Q:Field->List C->Prop} {cs:List Value}:∀ (fs:List Field) (o:Nat),CX P o fs=some cs.length->
 (∀ (i:Nat) (f:Field),fs[i]? = some f->∃ p,Q f p/\All2 R p ((cs.drop f.offset).take (P.cellsOf f.type)))->
 ∃ parts:List (List C),parts.length=fs.length/\(∀ (i:Nat) (f:Field) (p:List C),fs[i]? = some f->parts[i]? = some p->Q f p)/\All2 R parts.flatten (cs.drop o)
 | [],o,ho,_=>by
  simp only [CX,aC] at ho
  subst ho
  exact ⟨[],rfl,fun i f p h=>by simp at h,by simpa using All2.nil⟩
 | f :: fs,o,ho,h=>by
  simp only [CX] at ho
  split at ho
  · rename_i hf
    obtain ⟨parts,h1,h2,h3⟩:=SB fs _ ho fun i f hf=>h (i + 1) f (by simpa using hf)
    obtain ⟨p,h4,h5⟩:=h 0 f rfl
    refine ⟨p :: parts,by simp [h1],fun i g q hg hq=>?_,?_⟩
    · cases i with
      | zero=>simp at hg hq; subst hg hq; exact h4
      | succ i=>exact h2 i g q (by simpa using hg) (by simpa using hq)
    · have:cs.drop o=(cs.drop f.offset).take (P.cellsOf f.type) ++ cs.drop (o + P.cellsOf f.type):=by
       rw [hf,<-List.drop_drop,List.take_append_drop]
      rw [List.flatten_cons,this]
      exact h5.app h3
  · cases ho
section
variable {H:Type} {enc:TypeId × Value->H} {P:Program} {W:World} {ts:List TypeId}
theorem G3 {b off len cap sz:Nat} {oa:Option Addr} (hoa:len ≠ 0->oa=some ⟨b,off,none⟩) (hsz:0 < sz) (X:Nat->List C) (hl:∀ i,i < len->(X i).length=sz) (hc:len<=cap)
 (h:∀ i,i < len->∀ j c,(X i)[j]? = some c->∃ v,W.cell? ⟨b,off + (i * sz + j),none⟩=some v/\c.fv (lD W) v/\c.shut=true) :
 FzR (lD W) ((List.range len).map X) (.slice oa len cap):=by
 have hz:∀ x ∈ (List.range len).map X,x.length=sz:=fun x hx=>by
  obtain ⟨i,hi,rfl⟩:=List.mem_map.1 hx
  exact hl i (List.mem_range.1 hi)
 have hfl:∀ k c,((List.range len).map X).flatten[k]? = some c->∃ v,W.cell? ⟨b,off + k,none⟩=some v/\c.fv (lD W) v/\c.shut=true:=fun k c hk=>by
  have hkl:k < len * sz:=by
   have h1:=(aU.1 hk).1
   rw [iJ _ hz] at h1
   simpa using h1
  have hi:k / sz < len:=(Nat.div_lt_iff_lt_mul hsz).2 hkl
  have hj:=Nat.mod_lt k hsz
  have hg:=f6 hz (i:=k / sz) (j:=k % sz) (by simpa using hi) hj
  rw [Nat.mul_comm,Nat.div_add_mod,hk] at hg
  have hxi:((List.range len).map X)[k / sz]? = some (X (k / sz)):=by simp [hi]
  rw [hxi,Option.bind_some] at hg
  have:=h (k / sz) hi (k % sz) c hg.symm
  rwa [Nat.mul_comm,Nat.div_add_mod] at this
 have hr:=FzR.mk (ro:=lD W) ((List.range len).map X) sz (some (b,off)) oa (fun hne=>hoa (fun e=>by subst e; simp at hne)) cap (fun k=>(W.cell? ⟨b,off + k,none⟩).getD undef) hz (by simpa using hc) (fun _=>rfl)
  (fun k c hk=>by
    obtain ⟨v,h2,_⟩:=hfl k c hk
    simp [lD,h2])
  (fun k v hk=>by
    obtain ⟨u,h1,h2,_⟩:=hfl k _ hk
    have:u=v:=h2
    simp [h1,this])
  (fun k ys hk=>by
    obtain ⟨u,h1,h2,_⟩:=hfl k _ hk
    have:FzR (lD W) ys u:=h2
    simpa [h1] using this)
  (fun c hc=>by
    obtain ⟨k,hk⟩:=List.mem_iff_getElem?.1 hc
    obtain ⟨u,_,_,h3⟩:=hfl k c hk
    exact h3)
  (fun _ _ _=>.inl rfl)
 simpa using hr
theorem mY (hok:F8 P ts=true):∀ (n:Nat) (t:TypeId) (cs:List Value) (y:DataW H × List MemPlace),t ∈ ts->DataW.trod enc P W 0 (fun _=>true) true n t cs=some y->
 ∃ xs,Fit P t xs/\All2 (C.fv (lD W)) xs cs/\∀ c ∈ xs,c.shut=true
 | 0,t,cs,y,_,h=>by simp [DataW.trod] at h
 | n + 1,t,cs,y,ht,h=>by
  have h1:=List.all_eq_true.1 hok t ht
  split at h1
  · rename_i k hu
    obtain ⟨m,rfl,_,hw⟩:=DataW.trod_int hu h
    exact ⟨_,.int hu hw,.cons rfl .nil,fun c hc=>by simp at hc; subst hc; rfl⟩
  · rename_i hu
    obtain ⟨b,rfl,_⟩:=DataW.trod_bool hu h
    exact ⟨_,.bool hu,.cons rfl .nil,fun c hc=>by simp at hc; subst hc; rfl⟩
  · rename_i hu
    obtain ⟨s,rfl,_,hs⟩:=DataW.trod_string hu h
    exact ⟨_,.str hu hs,.cons rfl .nil,fun c hc=>by simp at hc; subst hc; rfl⟩
  · rename_i e hu
    simp only [Bool.and_eq_true,List.contains_iff_mem,decide_eq_true_eq] at h1
    obtain ⟨he,hpos⟩:=h1
    rcases DataW.trod_slice hu h with ⟨rfl,_⟩ | ⟨a,len,cap,elems,rest,n',hn',rfl,_,_,hl,hm,hel,hi,_⟩
    · exact ⟨_,.sl hu (Nat.zero_le _) (fun r hr=>by cases hr),.cons (RL _) .nil,fun c hc=>by simp at hc; subst hc; rfl⟩
    · obtain rfl:n=n':=by omega
      have hall:∀ i,i < len->∃ x:List C,Fit P e x/\x.length=P.cellsOf e/\(∀ j c,x[j]? = some c->∃ v,W.cell? ((a.add (i * P.cellsOf e)).add j)=some v/\c.fv (lD W) v/\c.shut=true):=fun i hil=>by
       have h1:=hi i hil
       rw [a8 (by omega)] at h1
       obtain ⟨cs',h2,h3⟩:=Option.bind_eq_some_iff.1 h1
       obtain ⟨x,h4,h5,h6⟩:=mY hok n e cs' _ he h3
       obtain ⟨_,h7,h8⟩:=World.cells?_some h2
       refine ⟨x,h4,h5.1.trans h7,fun j c hj=>?_⟩
       obtain ⟨v,h9,h10⟩:=h5.get hj
       have hjl:j < P.cellsOf e:=by rw [<-h7,<-h5.1]; exact (aU.1 hj).1
       refine ⟨v,?_,h10,h6 c (b6 hj)⟩
       have:=h8 j hjl
       rwa [h9] at this
      by_cases h0:len=0
      · subst h0
        refine ⟨[.fz []],.sl hu (Nat.zero_le _) (fun r hr=>by cases hr),.cons ?_ .nil,fun c hc=>by simp at hc; subst hc; rfl⟩
        exact G3 (b:=0) (off:=0) (fun h=>absurd rfl h) hpos (fun _=>[]) (fun i hi=>by omega) (Nat.zero_le _) (fun i hi=>by omega)
      · obtain ⟨x0,_,hx0l,hx0⟩:=hall 0 (by omega)
        have hsp:a.spot=none:=by
         have hx:∃ c,x0[0]? = some c:=⟨_,a8 (by omega)⟩
         obtain ⟨c,hc⟩:=hx
         obtain ⟨v,hv,_⟩:=hx0 0 c hc
         unfold World.cell? at hv
         split at hv
         · split at hv
           · cases hv
           · rename_i hs; simpa [Addr.add] using hs
         · cases hv
        obtain ⟨b,off,spot⟩:=a
        obtain rfl:spot=none:=hsp
        haveI:Inhabited (List C):=⟨[]⟩
        obtain ⟨X,hX⟩:=Go.Deep.choose_lt hall
        refine ⟨[.fz ((List.range len).map X)],.sl hu (by simp; omega) (fun r hr=>?_),.cons ?_ .nil,fun c hc=>by simp at hc; subst hc; rfl⟩
        · obtain ⟨i,hi,rfl⟩:=List.mem_map.1 hr
          exact (hX i (List.mem_range.1 hi)).1
        · exact G3 (fun _=>rfl) hpos X (fun i hi=>(hX i hi).2.1) hl (fun i hi j c hj=>by
           obtain ⟨v,h2,h3⟩:=(hX i hi).2.2 j c hj
           exact ⟨v,by simpa [Go.WideShapes.add_plain,Nat.add_assoc] using h2,h3⟩)
  · rename_i fs hu
    simp only [Bool.and_eq_true,List.all_eq_true,List.contains_iff_mem,beq_iff_eq] at h1
    obtain ⟨hft,hof⟩:=h1
    obtain ⟨ys,n',hn,_,hcl,hyl,hf⟩:=DataW.trod_struct hu h
    obtain rfl:n=n':=by omega
    obtain ⟨parts,k1,k2,k3⟩:=SB (P:=P) (R:=fun c v=>C.fv (lD W) c v/\c.shut=true) (Q:=fun f p=>Fit P f.type p) (cs:=cs) fs.toList 0 (by rw [hcl]; exact hof) (fun i f hfi=>by
     have hfi':fs[i]? = some f:=by simpa using hfi
     have h2:=hf i f hfi'
     have hil:i < fs.size:=(Array.getElem?_eq_some_iff.1 hfi').1
     rw [a8 (by omega)] at h2
     obtain ⟨x,h4,h5,h6⟩:=mY hok n f.type _ _ (hft f (b6 hfi)) h2
     exact ⟨x,h4,⟨h5.1,fun j c v hc hv=>⟨h5.2 j c v hc hv,h6 c (b6 hc)⟩⟩⟩)
    refine ⟨parts.flatten,.st hu (by simpa using k1) (fun i f p hfi hp=>k2 i f p (by simpa using hfi) hp),?_,fun c hc=>?_⟩
    · simpa using k3.imp (fun _ _ h=>h.1)
    · obtain ⟨j,hj⟩:=List.mem_iff_getElem?.1 hc
      obtain ⟨v,_,_,h3⟩:=k3.get hj
      exact h3
  · cases h1
theorem F4 (hok:F8 P ts=true) {t:TypeId} {v:Value} {d:DataW H} {ps:List MemPlace} (ht:t ∈ ts) (h:DataW.Trod enc P W 0 (fun _=>true) true t v d ps):∃ xs,Fit P t xs/\All2 (C.fv (lD W)) xs v.cells.toList/\∀ c ∈ xs,c.shut=true:=by
 obtain ⟨n,h⟩:=h
 exact mY hok n t _ _ ht h
theorem UJ {c:C} {v:Value} (h:All2 (C.fv (lD W)) [c] v.cells.toList) (hv:v.cells.toList=[v]) (hs:c.shut=true):(S.va (.c1 c)).rel (gm []) (lD W) v:=by
 rw [hv] at h
 exact (C.rel_shut hs).2 (h.2 0 c v rfl rfl)
end
end Go.W
