/- Lemmas and walks for the proof. -/
import Derived.Test.YtngnfcbdgiodfaaGreatNa
import Derived.Orders
import Derived.Deep.LoopGhost
import Derived.Scope
import Derived.Below
import Derived.WalkKit
import Derived.MapKept
import Derived.Lib.Builder
import Derived.Lib.UnsafeStr
import Derived.Laws.Externs
import Derived.KernelRfl
set_option maxRecDepth 100000
set_option maxHeartbeats 8000000
namespace Go.Z
section
variable {P:Program} {x y i:Operand} {t t' s u kt et ty:TypeId} {X:Ctx} {β β':Bt} {h:H} {w:World}
theorem lD (hR:Rel X β h w) {b:Bk} {o:Obj} (hon:On (eV β (hN h) ⟨w.heap.size,0,0,0,0⟩) (w.alloc o) ⟨w.heap.size,0,0,0,0⟩ b) :
 Ex β h (eV β (hN h) ⟨w.heap.size,0,0,0,0⟩) (hP h b)/\VR (eV β (hN h) ⟨w.heap.size,0,0,0,0⟩) (.p (hN h) 0 0) (.pointer (some ⟨w.heap.size,0,none⟩))/\Rel X (eV β (hN h) ⟨w.heap.size,0,0,0,0⟩) (hP h b) (w.alloc o):=by
 refine ⟨⟨fun n hn=>dS _ _ (by omega),by simp,fun n hn _=>cB _ _ hn⟩,.p (hN h) 0 0 ⟨w.heap.size,0,0,0,0⟩ (cF _ _ _),?_⟩
 refine (hR.pushed b).fresh hR.none (by simp) (Nat.le_refl _) (fun blk hblk=>?_) (bE w _) (aV w _) rfl rfl rfl
 rw [eJ] at hblk
 cases hblk
 exact hon
theorem wI (ht:P.underlying t=some .string):NS P (.range t x) fun ρ h k=>match ρ x with
 | .s l n=>push h (.is l n 0) fun b h=>k (.p b 0 0) h
 | _=>bad "range":=by
 intro ρ ev X β h w k o ho hr hR hg
 have h1:=hr x (by simp [Op.operands])
 dsimp only at hg
 split at hg
 case h_2=>cases hg
 rename_i l n hx
 rw [hx] at h1
 rw [dG] at hg
 generalize e1:ev x=u1 at h1
 cases h1 with | s _ _ s k1 k2=>
 obtain ⟨r1,r2,r3⟩:=lD (o:=.stringIter s 0) (b:=.is l n 0) hR ⟨rfl,s,k1,k2,eZ w _⟩
 exact ⟨_,_,_,_,_,hg,r1,r2,r3,.inl (by simp [execOp,ho,e1,Instr.range,run_underlying ht])⟩
theorem vK (ht:P.underlying t=some (.map kt et)):NS P (.range t x) fun ρ h k=>match ρ x with
 | .m m=>rM (hG h m) fun _ c=>push h (.im (some m) c [] c) fun b h=>k (.p b 0 0) h
 | .k .m=>push h (.im none 0 [] 0) fun b h=>k (.p b 0 0) h
 | _=>bad "range":=by
 intro ρ ev X β h w k o ho hr hR hg
 have h1:=hr x (by simp [Op.operands])
 dsimp only at hg
 split at hg
 · rename_i m hx
   rw [hx] at h1
   generalize e1:ev x=u1 at h1
   cases h1 with | m _ g q1=>
   obtain ⟨es,c,hb,hg⟩:=j3 hg
   rw [dG] at hg
   obtain ⟨ms,m1,m2⟩:=(hR.own m g _ q1 hb).map
   have hget:(getObj g.b).run P w=.ok (.map ms c) w:=cA m1 (by intros; simp)
   have hm:m ≠ hN h:=Nat.ne_of_lt (hR.lt m g q1)
   obtain ⟨r1,r2,r3⟩:=lD (o:=.mapIter (some g.b) c #[] c) (b:=.im (some m) c [] c) hR ⟨rfl,g, #[],by rw [dS _ _ hm]; exact q1,eZ w _,rfl⟩
   exact ⟨_,_,_,_,_,hg,r1,r2,r3,.inl (by simp [execOp,ho,e1,Instr.range,run_underlying ht,hget])⟩
 · rename_i hx
   rw [hx] at h1
   generalize e1:ev x=u1 at h1
   cases h1
   rw [dG] at hg
   obtain ⟨r1,r2,r3⟩:=lD (o:=.mapIter none 0 #[] 0) (b:=.im none 0 [] 0) hR ⟨rfl,0, #[],0,eZ w _⟩
   exact ⟨_,_,_,_,_,hg,r1,r2,r3,.inl (by simp [execOp,ho,e1,Instr.range,run_underlying ht])⟩
 · cases hg
theorem tT {r bm since last clock:Nat} {sa:Array Nat} {ms:Array MapEntry} (hr:w.heap[r]? = some (.mapIter (some bm) since sa last)) (hb:w.heap[bm]? = some (.map ms clock)) (ht:(!sa.isEmpty && !ms.isEmpty && ms.all (fun x=>decide (x.born ≥ last)))=false)
 (hL:ms.filter (fun e=>!sa.contains e.born)=#[]):(Instr.next (.pointer (some ⟨r,0,none⟩)) false ty).run P w=.ok (.tuple #[.bool false]) w:=by
 simp only [Instr.next,getObj,Sem.run_bind,Sem.run,hr,hb,Result.andThen,ht,Bool.false_eq_true,if_false,hL]
 simp [choose,Sem.run,Question.forced]
theorem t3 {r bm since last clock:Nat} {sa:Array Nat} {ms:Array MapEntry} {e:MapEntry} (hr:w.heap[r]? = some (.mapIter (some bm) since sa last)) (hb:w.heap[bm]? = some (.map ms clock)) (ht:(!sa.isEmpty && !ms.isEmpty && ms.all (fun x=>decide (x.born ≥ last)))=false)
 (hL:ms.filter (fun e=>!sa.contains e.born)=#[e]) (he:e.born < since):(Instr.next (.pointer (some ⟨r,0,none⟩)) false ty).run P w=.ok (.tuple #[.bool true,e.key,e.val]) (gC w r (.mapIter (some bm) since (sa.push e.born) clock)):=by
 have hs:=fS (P:=P) (o':=.mapIter (some bm) since (sa.push e.born) clock) hr (by intros; simp)
 have hge:¬ since<=e.born:=by omega
 simp only [Instr.next,getObj,Sem.run_bind,Sem.run,hr,hb,Result.andThen,ht,Bool.false_eq_true,if_false,hL]
 simp [choose,Sem.run,Question.forced,he,hge,hs]
theorem fZ (n:Nat):∀ l:List Nat,bY n l=l.contains n
 | []=>rfl
 | m :: r=>by
  show (Bool.rec (bY n r) true (Nat.beq m n):Bool)=_
  rw [bD,bN,fZ n r]
  by_cases h:m=n
  · subst h; simp
  · have h':¬ n=m:=fun e=>h e.symm
    simp [h,h']
theorem i6 {seen:List Nat} {sa:Array Nat} (hs:sa.toList=seen.reverse):∀ (es:Es) (ms:List MapEntry),EsR β es ms->EsR β (left seen es) (ms.filter fun e=>!sa.contains e.born)
 | [],ms,he=>by
  have:ms=[]:=List.eq_nil_of_length_eq_zero he.1.symm
  subst this
  exact he
 | e :: es,ms,he=>by
  obtain ⟨m,ms',rfl,⟨h1,h2,h3⟩,he'⟩:=he.inv
  have hc:sa.contains m.born=bY e.2.2 seen:=by
   rw [fZ,h3,<-Array.contains_toList,hs]
   rw [Bool.eq_iff_iff]
   simp
  show EsR β (Bool.rec (e :: left seen es) (left seen es) (bY e.2.2 seen)) _
  rw [bD,List.filter_cons,hc]
  cases hn:bY e.2.2 seen with
  | true=>simpa using i6 hs es ms' he'
  | false=>simpa using EsR.cons ⟨h1,h2,h3⟩ (i6 hs es ms' he')
theorem l6 {last:Nat}:∀ (es:Es) (ms:List MapEntry),EsR β es ms->mU last es=true->ms.all (fun x=>decide (x.born ≥ last))=false
 | [],ms,he,h=>by cases h
 | e :: es,ms,he,h=>by
  obtain ⟨m,ms',rfl,⟨h1,h2,h3⟩,he'⟩:=he.inv
  have h:(Bool.rec (mU last es) true (Nat.blt e.2.2 last):Bool)=true:=h
  rw [bD,bA] at h
  rw [List.all_cons]
  split at h
  · rename_i hlt
    have hlt:=of_decide_eq_true hlt
    have:¬ (m.born ≥ last):=by omega
    simp [this]
  · rw [l6 es ms' he' h,Bool.and_false]
theorem xF {α:Type} (l:List α):nl l=l.isEmpty:=by cases l<;>rfl
theorem n_next:NS P (.next x false) fun ρ h k=>rP (ρ x) fun b i j=>match i,j,hG h b with
 | 0,0,some (.im none _ _ _)=>k (.t [.b false]) h
 | 0,0,some (.im (some m) since seen last)=>rM (hG h m) fun es c=>bif nl seen || nl es || mU last es then match left seen es with
  | []=>k (.t [.b false]) h
  | [e]=>bif Nat.blt e.2.2 since then hS h b (.im (some m) since (e.2.2 :: seen) c) fun h=>k (.t [.b true,e.1,e.2.1]) h else bad "next: new entry"
  | _=>bad "next: more than one entry"
  else bad "next: gone"
 | _,_,_=>bad "next":=by
 intro ρ ev X β h w k o ho hr hR hg
 have h1:=hr x (by simp [Op.operands])
 obtain ⟨b,i,j,hx,hg⟩:=nI hg
 rw [hx] at h1
 generalize e1:ev x=u1 at h1
 cases h1 with | p _ _ _ g q1=>
 have tF:VR β (.t [.b false]) (.tuple #[.bool false]):=.t [.b false] [.bool false] rfl fun i c v hc hv=>by
  cases i with
  | zero=>simp at hc hv; subst hc; subst hv; exact .b _
  | succ i=>simp at hc
 split at hg
 · rename_i hb
   obtain ⟨g0,s1,s2,s3,hw⟩:=hR.own b g _ q1 hb
   refine ⟨_,_,_,_,_,hg,.refl _ _,tF,hR,.inl ?_⟩
   have hget:(getObj g.b).run P w=.ok (.mapIter none s1 s2 s3) w:=cA hw (by intros; simp)
   simp [execOp,ho,e1,g0,Instr.next,hget]
 · rename_i m since seen last hb
   obtain ⟨g0,gm,sa,h2,h3,h4⟩:=hR.own b g _ q1 hb
   obtain ⟨es,c,hm,hg⟩:=j3 hg
   obtain ⟨ms,m1,m2⟩:=(hR.own m gm _ h2 hm).map
   have hl:=i6 h4 es ms.toList m2
   cases hc:(nl seen || nl es || mU last es) with
   | false=>rw [hc] at hg; cases hg
   | true=>
    rw [hc] at hg
    simp only [cond_true] at hg
    have ht:(!sa.isEmpty && !ms.isEmpty && ms.all (fun x=>decide (x.born ≥ last)))=false:=by
     rw [Bool.or_eq_true,Bool.or_eq_true,xF,xF] at hc
     rcases hc with (hc | hc) | hc
     · have:seen=[]:=List.isEmpty_iff.1 hc
       subst this
       have:sa=#[]:=Array.toList_eq_nil_iff.1 (by simpa using h4)
       subst this
       rfl
     · have:es=[]:=List.isEmpty_iff.1 hc
       subst this
       have:ms=#[]:=Array.toList_eq_nil_iff.1 (List.eq_nil_of_length_eq_zero m2.1.symm)
       subst this
       simp
     · have:=l6 es ms.toList m2 hc
       rw [<-Array.all_toList,this,Bool.and_false]
    have hfl:(ms.filter fun e=>!sa.contains e.born).toList=ms.toList.filter fun e=>!sa.contains e.born:=by simp
    split at hg
    · rename_i hle
      rw [hle] at hl
      have hL:(ms.filter fun e=>!sa.contains e.born)=#[]:=Array.toList_eq_nil_iff.1 (by rw [hfl]; exact List.eq_nil_of_length_eq_zero hl.1.symm)
      refine ⟨_,_,_,_,_,hg,.refl _ _,tF,hR,.inl ?_⟩
      simp [execOp,ho,e1,g0,tT h3 m1 ht hL]
    · rename_i e hle
      rw [hle] at hl
      obtain ⟨me,ms',hms,⟨k1,k2,k3⟩,hnil⟩:=hl.inv
      have:ms'=[]:=List.eq_nil_of_length_eq_zero hnil.1.symm
      subst this
      have hL:(ms.filter fun e=>!sa.contains e.born)=#[me]:=by apply Array.ext'; rw [hfl,hms]
      cases hlt:Nat.blt e.2.2 since with
      | false=>rw [hlt] at hg; cases hg
      | true=>
       rw [hlt] at hg
       simp only [cond_true] at hg
       rw [bA] at hlt
       have hlt:=of_decide_eq_true hlt
       obtain ⟨hlt',hg⟩:=cI hg
       have hrun:=t3 (P:=P) (ty:=o.type) h3 m1 ht hL (by omega)
       refine ⟨_,_,_,.tuple #[.bool true,me.key,me.val],_,hg,Ex.write hR _ q1,?_,hR.write q1 ⟨_,hb,by simp⟩ ?_ (fun b' hb'=>iQ _ hb') (jC _ (.mapIter (some gm.b) since (sa.push me.born) c)) rfl rfl rfl,.inl ?_⟩
       · refine .t [.b true,e.1,e.2.1] [.bool true,me.key,me.val] rfl fun i c v hc hv=>?_
         match i with
         | 0=>simp at hc hv; subst hc; subst hv; exact .b _
         | 1=>simp at hc hv; subst hc; subst hv; exact k1
         | 2=>simp at hc hv; subst hc; subst hv; exact k2
         | i + 3=>simp at hc
       · exact ⟨g0,gm,sa.push me.born,h2,jB h3,by simp [h4,k3]⟩
       · simp [execOp,ho,e1,g0,hrun]
    · cases hg
 · cases hg
theorem n_nextS:NS P (.next x true) fun ρ h k=>rP (ρ x) fun b i j=>match i,j,hG h b with
 | 0,0,some (.is l n pos)=>bif Nat.blt pos l then aY (Nat.mod (Nat.shiftRight n (Nat.mul 8 pos)) 256) fun c=>bif Nat.blt c 128 then
  hS h b (.is l n (Nat.succ pos)) fun h=>k (.t [.b true,.i .i64 (.ofNat pos),.i .i32 (.ofNat c)]) h else bad "utf8"
  else k (.t [.b false]) h
 | _,_,_=>bad "next":=by
 intro ρ ev X β h w k o ho hr hR hg
 have h1:=hr x (by simp [Op.operands])
 obtain ⟨b,i,j,hx,hg⟩:=nI hg
 rw [hx] at h1
 generalize e1:ev x=u1 at h1
 cases h1 with | p _ _ _ g q1=>
 split at hg
 case h_2=>cases hg
 rename_i l n pos hb
 obtain ⟨g0,s,k1,k2,hw⟩:=hR.own b g _ q1 hb
 have hsz:=eN k1
 cases hlt:Nat.blt pos l with
 | false=>
  rw [hlt] at hg
  simp only [cond_false] at hg
  rw [bA] at hlt
  have hlt:=of_decide_eq_false hlt
  refine ⟨_,_,_,.tuple #[.bool false],_,hg,.refl _ _,.t [.b false] [.bool false] rfl fun i c v hc hv=>?_,hR,.inl ?_⟩
  · cases i with
    | zero=>simp at hc hv; subst hc; subst hv; exact .b _
    | succ i=>simp at hc
  · simp [execOp,ho,e1,g0,Lib.run_next_end_at w g.b s pos o.type hw (by omega)]
 | true=>
  rw [hlt] at hg
  simp only [cond_true,aL] at hg
  rw [bA] at hlt
  have hlt:=of_decide_eq_true hlt
  have hpos:pos < s.size:=by omega
  cases hc:Nat.blt (Nat.mod (Nat.shiftRight n (Nat.mul 8 pos)) 256) 128 with
  | false=>rw [hc] at hg; cases hg
  | true=>
   rw [hc] at hg
   simp only [cond_true] at hg
   rw [bA] at hc
   have hc:=of_decide_eq_true hc
   obtain ⟨hlt',hg⟩:=cI hg
   have hbyte:(s[pos]'hpos).toNat=Nat.mod (Nat.shiftRight n (Nat.mul 8 pos)) 256:=by
    have e2:s.data.toList[pos]? = some (s[pos]'hpos):=by
     have:s.data[pos]? = some (s[pos]'hpos):=by rw [Array.getElem?_eq_getElem (by exact hpos)]; rfl
     simpa using this
    rw [k1,nB _ _ _ hlt] at e2
    rw [<-Option.some.inj e2]
    rw [UInt8.toNat_ofNat',Nat.mod_mod,wV]
    rfl
   have hrun:=Lib.run_next_ascii_at (P:=P) w g.b s pos o.type hw hpos (by omega)
   refine ⟨_,_,_,.tuple #[.bool true,.int .i64 pos,.int .i32 (s[pos]'hpos).toNat],_,hg,Ex.write hR _ q1,?_,hR.write (w':=gC w g.b (.stringIter s (pos + 1))) q1 ⟨_,hb,by simp⟩ ?_ (fun b' hb'=>iQ _ hb') (jC _ _) rfl rfl rfl,.inl ?_⟩
   · refine .t _ [.bool true,.int .i64 pos,.int .i32 (s[pos]'hpos).toNat] rfl fun i c v hc hv=>?_
     match i with
     | 0=>simp at hc hv; subst hc; subst hv; exact .b _
     | 1=>simp at hc hv; subst hc; subst hv; exact .i _ _
     | 2=>simp at hc hv; subst hc; subst hv; rw [hbyte]; exact .i _ _
     | i + 3=>simp at hc
   · exact ⟨g0,s,k1,k2,jB hw⟩
   · simp [execOp,ho,e1,g0,hrun]
     rfl
end
end Go.Z
namespace Go.Z
def ent (P:Program) (f:FuncId):Prop:=∀ (args:Array Value) (w:World),(callFunc f args).run P w=.ok (.enter f args) w
theorem zW {P:Program} {f:FuncId} {fn:Func} {c:Code} (hf:P.funcs[f]? = some fn) (hb:fn.body=some c) (hn:(fn.name == "runtime.NumGoroutine")=false):ent P f:=fun args w=>by
 simp only [callFunc,Sem.run_bind,run_program,Result.andThen_ok,hf,hn,hb]
 simp
def c8 (P:Program) (E:Ev):Prop:=∀ f vs h k,E f vs h k=true->ent P f/\∀ (X:Ctx) (β:Bt) (us:List Value) (w:World),AllR β vs us->Rel X β h w->
 Calls P f us.toArray w (fun e w'=>∃ u v h' β',e=.returned u/\k v h'=true/\Ex β h β' h'/\VR β' v u/\Rel X β' h' w')
def MS (P:Program) (op:Op) (g:(Operand->V)->Ev->H->(V->H->R)->R):Prop:=
 ∀ (E:Ev),c8 P E->∀ (ρ:Operand->V) (a:Act) (X:Ctx) (β:Bt) (h:H) (w:World) (k:V->H->R) (o:Oper),o.op=op->jN β op ρ a.eval->Rel X β h w->g ρ E h k=true->
  ∀ (next:Act->World->Prop) (Q:Exit->Act->World->Prop),(∀ v h' β' u w',k v h'=true->Ex β h β' h'->VR β' v u->Rel X β' h' w'->next (a.put o.dst u) w')->o.wp P a w next Q
section
variable {P:Program} {x y i:Operand} {t t' s u kt et ty:TypeId} {X:Ctx} {β β':Bt} {h:H} {w:World}
theorem NS.ms {op:Op} {g:(Operand->V)->H->(V->H->R)->R} (hg:NS P op g):MS P op fun ρ _ h k=>g ρ h k:=by
 intro E hE ρ a X β h w k o ho hr hR hk next Q hK
 obtain ⟨v,h',β',u,w',q1,q2,q3,q4,q5⟩:=hg ρ a.eval X β h w k o ho hr hR hk
 unfold Oper.wp
 rcases q5 with q5 | ⟨rfl,q5⟩
 · rw [q5,Oper.upon_value]; exact hK v h' β' u w' q1 q2 q3 q4
 · rw [q5,Oper.upon_skip]; exact hK v h' β' undef w' q1 q2 q3 q4
theorem kC {E:Ev} (hE:c8 P E) {a:Act} {k:V->H->R} {o:Oper} {f:FuncId} {vs:List V} {us:List Value} (hR:Rel X β h w) (hk:E f vs h k=true) (hv:AllR β vs us)
 (hrun:(execOp a.eval o).run P w=(callFunc f us.toArray).run P w) (next:Act->World->Prop) (Q:Exit->Act->World->Prop) (hK:∀ v h' β' u w',k v h'=true->Ex β h β' h'->VR β' v u->Rel X β' h' w'->next (a.put o.dst u) w'):o.wp P a w next Q:=by
 obtain ⟨h1,h2⟩:=hE f vs h k hk
 unfold Oper.wp
 rw [hrun,h1,Oper.upon_enter]
 refine (h2 X β us w hv hR).mono ?_
 rintro e w' ⟨u,v,h',β',rfl,q1,q2,q3,q4⟩
 exact hK v h' β' u w' q1 q2 q3 q4
theorem kE {ρ:Operand->V} {ev:Operand->Value}:∀ l:List Operand,(∀ x ∈ l,VR β (ρ x) (ev x))->AllR β (ops ρ l) (l.map ev)
 | [],_=>.nil
 | x :: l,h=>by
  show AllR β (ρ x :: ops ρ l) _
  rw [List.map_cons]
  exact AllR.cons (h x (by simp)) (kE l fun y hy=>h y (by simp [hy]))
theorem rW {vs ws:List V} {us ts:List Value} (h:AllR β vs us) (k:AllR β ws ts):AllR β (app vs ws) (us ++ ts):=by rw [oZ]; exact h.app k
theorem yZ {c:Call} {f:FuncId} (hc:c.callee=.value (.func f)):MS P (.call c) fun ρ E h k=>E f (ops ρ c.args.toList) h k:=by
 intro E hE ρ a X β h w k o ho hr hR hk next Q hK
 have hargs:=kE (β:=β) (ρ:=ρ) (ev:=a.eval) c.args.toList fun x hx=>hr x (by simp [Op.operands,Call.operands,hc]; simp at hx; simp [hx])
 refine kC hE hR hk hargs ?_ next Q hK
 have harr:c.args.map a.eval=(c.args.toList.map a.eval).toArray:=by rw [<-Array.toList_map,Array.toArray_toList]
 simp [execOp,ho,resolve,hc,Act.eval,Deferred.ofValue,invoke,harr]
theorem x6 {c:Call} {x:Operand} (hc:c.callee=.value x):MS P (.call c) fun ρ E h k=>rF (ρ x) fun f fs cs=>E f (app fs (app (ops ρ c.args.toList) cs)) h k:=by
 intro E hE ρ a X β h w k o ho hr hR hk next Q hK
 have hargs:=kE (β:=β) (ρ:=ρ) (ev:=a.eval) c.args.toList fun x hx=>hr x (by simp [Op.operands,Call.operands,hc]; simp at hx; simp [hx])
 have h1:=hr x (by simp [Op.operands,Call.operands,hc])
 obtain ⟨f,fs,cs,hx,hk⟩:=yG hk
 rw [hx] at h1
 generalize e1:a.eval x=u1 at h1
 cases h1 with | f _ _ _ us vs q1 q2 q3 q4=>
 refine kC hE hR hk (rW ⟨q1,q2⟩ (rW hargs ⟨q3,q4⟩)) ?_ next Q hK
 have harr:c.args.map a.eval=(c.args.toList.map a.eval).toArray:=by rw [<-Array.toList_map,Array.toArray_toList]
 simp [execOp,ho,resolve,hc,e1,Deferred.ofValue,invoke,harr]
theorem kG (t:TypeId) (a:Addr) (w:World):(Instr.loadAt t (.pointer (some a))).run P w=(loadVar t a).run P w:=by
 simp [Instr.loadAt,Instr.sureAddr]
theorem iB {t:TypeId} {name:String} {md:Md} (h:jZ P t name=md) (hn:md ≠ .no):∃ (ti:TypeInfo) (m:Method) (f:FuncId) (ptr:Bool),P.info? t=some ti/\ti.methods.find? (fun m=>m.name == name)=some m/\m.func=some (f,ptr)/\m.path=#[]/\
 ((∃ e,P.underlying t=some (.pointer e)/\ptr=true/\md=.go f)\/(∃ e g n,P.underlying t=some (.pointer e)/\ptr=false/\aJ P e=some g/\aF P e=some n/\md=.ld f g n)\/(∃ d,P.underlying t=some d/\(∀ e,d ≠ .pointer e)/\ptr=false/\md=.go f)):=by
 unfold jZ at h
 split at h
 case h_2=>exact absurd h.symm hn
 rename_i ti hi
 split at h
 case h_2=>exact absurd h.symm hn
 rename_i m hm
 have hm:ti.methods.find? (fun m=>m.name == name)=some m:=by rw [<-Array.find?_toList]; exact hm
 split at h
 case h_2=>exact absurd h.symm hn
 rename_i f ptr hf hp
 have hp:m.path=#[]:=Array.toList_eq_nil_iff.1 hp
 refine ⟨ti,m,f,ptr,hi,hm,hf,hp,?_⟩
 split at h
 · rename_i e hu
   exact .inl ⟨e,hu,rfl,h.symm⟩
 · rename_i e hu
   split at h
   · rename_i g n h1 h2
     exact .inr (.inl ⟨e,g,n,hu,rfl,h1,h2,h.symm⟩)
   · exact absurd h.symm hn
 · rename_i d hne hu
   exact .inr (.inr ⟨d,hu,fun e he=>hne e (by rw [he]),rfl,h.symm⟩)
 · exact absurd h.symm hn
theorem uW (ts:Array TypeId) (t:TypeId) (a:Addr) (x y:String) (w:World):(Builtin.ssaWrapNilChk_ ts t #[.pointer (some a),strVal x,strVal y]).run P w=.ok (.pointer (some a)) w:=rfl
theorem sV {t:TypeId} {name:String} {f:FuncId} (h:jZ P t name=.go f) (v:Value) (n:Nat) (w:World):(method (n + 1) t v name).run P w=.ok (f,v) w:=by
 obtain ⟨ti,m,f',ptr,hi,hm,hf,hp,h⟩:=iB h (by simp)
 rcases h with ⟨e,hu,rfl,he⟩ | ⟨e,g,k,hu,rfl,_,_,he⟩ | ⟨d,hu,hd,rfl,he⟩
 · cases he
   simp [method,typeInfo,hi,hm,hf,hp,follow,receiverAt,run_underlying hu,Place.get]
 · cases he
 · cases he
   cases d<;>first | exact absurd rfl (hd _) | simp [method,typeInfo,hi,hm,hf,hp,follow,receiverAt,run_underlying hu,Place.get]
theorem sW {t:TypeId} {name:String} {f:FuncId} {g:Bool} {k:Nat} (h:jZ P t name=.ld f g k) (a:Addr) {r:Value} {w:World} (hl:∀ e,aJ P e=some g->aF P e=some k->(loadVar e a).run P w=.ok r w) (n:Nat):(method (n + 1) t (.pointer (some a)) name).run P w=.ok (f,r) w:=by
 obtain ⟨ti,m,f',ptr,hi,hm,hf,hp,h⟩:=iB h (by simp)
 rcases h with ⟨e,hu,rfl,he⟩ | ⟨e,g',k',hu,rfl,h1,h2,he⟩ | ⟨d,hu,hd,rfl,he⟩
 · cases he
 · cases he
   have:=hl e h1 h2
   simp [method,typeInfo,hi,hm,hf,hp,follow,receiverAt,run_underlying hu,Place.get,uW,asAddr,this]
 · cases he
theorem wP {c:Call} {x:Operand} {name:String} (hc:c.callee=.invoke x name):MS P (.call c) fun ρ E h k=>rX (ρ x) fun t v=>match jZ P t name with
 | .go f=>E f (v :: ops ρ c.args.toList) h k
 | .ld f g n=>rO "invoke" (fH h g n v) fun v=>E f (v :: ops ρ c.args.toList) h k
 | .no=>bad "invoke: no such method":=by
 intro E hE ρ a X β h w k o ho hr hR hk next Q hK
 have hargs:=kE (β:=β) (ρ:=ρ) (ev:=a.eval) c.args.toList fun x hx=>hr x (by simp [Op.operands,Call.operands,hc]; simp at hx; simp [hx])
 have h1:=hr x (by simp [Op.operands,Call.operands,hc])
 obtain ⟨t,v,hx,hk⟩:=yT hk
 rw [hx] at h1
 generalize e1:a.eval x=u1 at h1
 cases h1 with | x _ _ u hv=>
 have harr:c.args.map a.eval=(c.args.toList.map a.eval).toArray:=by rw [<-Array.toList_map,Array.toArray_toList]
 have hta:(c.args.toList.map a.eval).take c.args.size=c.args.toList.map a.eval:=List.take_of_length_le (by simp)
 have hfu:P.types.size + Made.depth=(P.types.size + (Made.depth - 1)) + 1:=by
  have:0 < Made.depth:=by decide
  omega
 split at hk
 · rename_i f hm
   refine kC hE hR hk (AllR.cons hv hargs) ?_ next Q hK
   have:=sV hm u (P.types.size + (Made.depth - 1)) w
   rw [<-hfu] at this
   simp [execOp,ho,resolve,hc,e1,invoke,callMethod,harr,this,hta]
 · rename_i f g n hm
   obtain ⟨v',hl,hk9⟩:=cH hk
   obtain ⟨b,i,j,rfl,_⟩:=d2 hl
   obtain ⟨ti,m,f',ptr,_,_,_,_,hms⟩:=iB hm (by simp)
   cases hv with | p _ _ _ gg hgg=>
   have key:∃ r,VR β v' r/\∀ e,aJ P e=some g->aF P e=some n->(loadVar e ⟨gg.b,gg.base + i * gg.sz + j,none⟩).run P w=.ok r w:=by
    rcases hms with ⟨e,hu,rfl,he⟩ | ⟨e,g',k',hu,rfl,h1,h2,he⟩ | ⟨d,hu,hd,rfl,he⟩
    · cases he
    · cases he
      obtain ⟨r,q1,q2⟩:=i9 hR (.p b i j gg hgg) h1 h2 hl
      rw [kG] at q2
      refine ⟨r,q1,fun e' h3 h4=>?_⟩
      rw [<-q2]
      simp only [loadVar]
      cases g
      · simp only [Sem.run_bind,aN h1,aN h3,Result.andThen_ok]
        simp
      · simp only [Sem.run_bind,aN h1,aN h3,Result.andThen_ok]
        simp [aE h2,aE h4]
    · cases he
   obtain ⟨r,q1,q2⟩:=key
   refine kC hE hR hk9 (AllR.cons q1 hargs) ?_ next Q hK
   have:=sW hm _ q2 (P.types.size + (Made.depth - 1))
   rw [<-hfu] at this
   simp [execOp,ho,resolve,hc,e1,invoke,callMethod,harr,this,hta]
 · cases hk
end
end Go.Z
namespace Go.Z
def oU (P:Program) (op:Op):Od->Prop
 | .p g=>PS P op g
 | .q g=>QS P op g
 | .al g=>AS P op g
 | .m g=>MS P op g
 | .bad=>True
section
variable {P:Program} {x y i:Operand} {t t' s u kt et ty:TypeId}
theorem zH {op:BinOp}:oU P (.binOp op t x y t') (sN op x y):=by
 cases hq:sN op x y with
 | p g=>exact BI hq
 | bad=>trivial
 | q g=>cases op<;>cases hq
 | al g=>cases op<;>cases hq
 | m g=>cases op<;>cases hq
theorem zM {op:BinOp}:oU P (.binOp op t x y t') (sT op x y):=by
 cases hq:sT op x y with
 | p g=>exact AR hq
 | bad=>trivial
 | q g=>cases op<;>cases hq
 | al g=>cases op<;>cases hq
 | m g=>cases op<;>cases hq
theorem iE {op:BinOp} {f:V->V->Option Bool} (h:∀ g,gV x y op f=.p g->PS P (.binOp op t x y t') g):oU P (.binOp op t x y t') (gV x y op f):=by
 cases hq:gV x y op f with
 | p g=>exact h g hq
 | bad=>trivial
 | q g=>cases op<;>cases hq
 | al g=>cases op<;>cases hq
 | m g=>cases op<;>cases hq
theorem rE (ht:P.underlying t=some .bool) (a b:Bool) (w:World):(Op.equal t (.bool a) (.bool b)).run P w=.ok (a == b) w:=by
 simp only [Op.equal,Op.maxDepth]
 rw [show (10000:Nat)=9999 + 1 from rfl]
 generalize 9999=m
 simp [Op.equalIn,run_underlying ht]
theorem yA (ht:P.underlying t=some .bool) (a b:Bool) (w:World):(binOp .eql t (.bool a) (.bool b)).run P w=.ok (.bool (a == b)) w:=by
 simp only [binOp,Sem.run_bind,rE ht,Result.andThen_ok,Sem.run_pure]
theorem yX (ht:P.underlying t=some .bool) (a b:Bool) (w:World):(binOp .neq t (.bool a) (.bool b)).run P w=.ok (.bool (!(a == b))) w:=by
 simp only [binOp,Sem.run_bind,rE ht,Result.andThen_ok,Sem.run_pure]
theorem AE (op:BinOp):oU P (.binOp op t x y t') (u6 P op t x y):=by
 unfold u6
 split
 · exact zH
 · exact zM
 · rename_i ht
   split
   · exact uB (g:=fun a b=>fB a b) ht fun a b w=>by rw [dX,yA ht]
   · exact uB (g:=fun a b=>ng (fB a b)) ht fun a b w=>by rw [dX,eA,yX ht]
   · trivial
 · rename_i n e ht
   split
   · rename_i l hl
     exact iE fun g hq=>xH hq hl (by unfold aJ; rw [ht])
   · trivial
 · rename_i fs ht
   split
   · rename_i l hl
     exact iE fun g hq=>xH hq hl (by unfold aJ; rw [ht])
   · trivial
 · rename_i e ht
   exact iE fun g hq=>mV hq (.p e ht)
 · rename_i e ht
   exact iE fun g hq=>mV hq (.s e ht)
 · rename_i a b ht
   exact iE fun g hq=>mV hq (.m a b ht)
 · rename_i a b c ht
   exact iE fun g hq=>mV hq (.f a b c ht)
 · rename_i ms ht
   cases hk:(qA x || qA y) with
   | true=>
    simp only [cond_true]
    exact iE fun g hq=>mV hq (.i ms ht hk)
   | false=>trivial
 · trivial
theorem yL (c:Call):oU P (.call c) (qD P c):=by
 obtain ⟨callee,args,argTypes⟩:=c
 unfold qD
 dsimp only
 split
 · exact yZ rfl
 · exact x6 rfl
 · exact wP rfl
 · rename_i b
   split
   · rename_i x t ha ht
     have ha:args=#[x]:=Array.toList_inj.1 (by simpa using ha)
     have ht:argTypes=#[t]:=Array.toList_inj.1 (by simpa using ht)
     subst ha; subst ht
     split
     · rename_i n e hu; exact zB hu
     · rename_i a b hu; exact AC hu
     · rename_i hu; exact zS hu
     · rename_i e hu; exact AD hu
     · trivial
   · rename_i x y t t2 ha ht
     have ha:args=#[x,y]:=Array.toList_inj.1 (by simpa using ha)
     have ht:argTypes=#[t,t2]:=Array.toList_inj.1 (by simpa using ht)
     subst ha; subst ht
     split
     · exact zG (b:=true)
     · trivial
   · rename_i x y t t2 ha ht
     have ha:args=#[x,y]:=Array.toList_inj.1 (by simpa using ha)
     have ht:argTypes=#[t,t2]:=Array.toList_inj.1 (by simpa using ht)
     subst ha; subst ht
     split
     · exact zG (b:=false)
     · trivial
   · rename_i x y t t2 ha ht
     have ha:args=#[x,y]:=Array.toList_inj.1 (by simpa using ha)
     have ht:argTypes=#[t,t2]:=Array.toList_inj.1 (by simpa using ht)
     subst ha; subst ht
     split
     case h_2=>trivial
     rename_i e hu
     split
     · rename_i z sz by_ e2 h1 h2 h3 h4
       exact (qQ (str:=false) hu h1 h2 h3 h4 (by simp) (by simp)).ms
     · rename_i z h1 h2 h3 h4
       exact (qQ (str:=true) (sz:=0) (by_:=0) hu h1 h2 h3 h4 (by simp) (by simp)).ms
     · trivial
   · rename_i x y t t2 ha ht
     have ha:args=#[x,y]:=Array.toList_inj.1 (by simpa using ha)
     have ht:argTypes=#[t,t2]:=Array.toList_inj.1 (by simpa using ht)
     subst ha; subst ht
     split
     case h_2=>trivial
     rename_i e hu
     split
     · rename_i sz e2 h1 h2
       exact (zJ hu h1).ms
     · trivial
   · rename_i x y t t2 ha ht
     have ha:args=#[x,y]:=Array.toList_inj.1 (by simpa using ha)
     have ht:argTypes=#[t,t2]:=Array.toList_inj.1 (by simpa using ht)
     subst ha; subst ht
     split
     case h_2=>trivial
     rename_i kt e hu
     split
     · rename_i g h1
       exact (vW hu h1).ms
     · trivial
   · trivial
theorem jU (op:Op):oU P op (aZ P op):=by
 cases op with
 | move x=>exact zT
 | assign x=>exact u7
 | pick c a b=>exact z5
 | binOp op t x y t'=>exact AE op
 | call c=>exact yL c
 | extract x i=>exact uD
 | nilCheck x=>exact sQ
 | box t x=>exact BF
 | entry x=>exact yH
 | alloc t=>
  unfold aZ; dsimp only; split
  · rename_i z n h1 h2; exact yP h1 h2
  · trivial
 | build t parts=>
  unfold aZ; dsimp only; split
  · rename_i z fs h1 h2
    cases hp:sX P t with
    | true=>exact vD h1 h2 hp
    | false=>trivial
  · rename_i z n e h1 h2
    split
    · rename_i n h3; exact vP h1 h2 h3
    · trivial
  · trivial
 | buildSlice t len parts=>
  unfold aZ; dsimp only; split
  case h_2=>trivial
  rename_i e hu
  split
  case h_2=>trivial
  rename_i z sz h1 h2
  split
  · rename_i hp
    have hp:parts=#[]:=Array.toList_eq_nil_iff.1 hp
    subst hp
    exact oH hu h1 h2
  · rename_i l n
    cases hc:(Nat.ble (Nat.mul (n + 1) sz) 16777216 && Nat.blt 0 sz) with
    | true=>exact pR hu h1 h2 hc
    | false=>trivial
  · trivial
 | load t x=>
  unfold aZ; dsimp only; split
  · rename_i g n h1 h2; exact zD h1 h2
  · trivial
 | store t x y=>
  unfold aZ; dsimp only; split
  · rename_i n h1; exact (xY h1).ms
  · trivial
 | unOp op t x=>
  cases op with
  | not=>exact AU
  | neg=>exact AW
  | plus=>trivial
  | xor=>exact AM
 | convert s t x=>
  unfold aZ; dsimp only; split
  · rename_i a b h1 h2; exact tZ h1 h2
  · rename_i h1 h2; exact t9 h1 h2
  · rename_i e h1 h2
    split
    · rename_i h3 h4; exact tG h1 h3 h2
    · trivial
  · trivial
 | makeInterface t x=>
  unfold aZ; dsimp only; split
  · trivial
  · rename_i d hne h1; exact y2 h1 (fun ms he=>hne ms (by rw [<-he]))
  · trivial
 | makeFunc fn first cs=>
  unfold aZ; dsimp only; split
  · exact zI
  · trivial
 | makeMap t r=>
  cases r with
  | none=>exact BL rfl
  | some r=>trivial
 | makeSlice t x y=>
  unfold aZ; dsimp only; split
  case h_2=>trivial
  rename_i e hu
  split
  · rename_i z sz by_ h1 h2 h3; exact qV hu h1 h2 h3
  · trivial
 | slice t x lo hi mx=>
  unfold aZ; dsimp only; split
  · split
    · rename_i h1; exact v2 h1
    · rename_i e h1
      split
      · rename_i n h2; exact uQ h1 h2
      · trivial
    · rename_i n e h1
      split
      · rename_i z h2; exact vU h1 h2
      · trivial
    · trivial
  · split
    · rename_i e h1
      split
      · rename_i n h2; exact uS h1 h2
      · trivial
    · trivial
 | fieldAddr s x f=>
  unfold aZ; dsimp only; split
  · rename_i b n h1; exact kI (g:=fun j=>some j) h1 (fun j r h=>by cases h; rfl)
  · rename_i off b n h0 h1;
    have e:(fun ρ:Operand->V=>oP (ρ x) fun n i j=>aY (Nat.add j off) fun j=>some (V.p n i j))=fun ρ=>oP (ρ x) fun n i j=>oO (some (Nat.add j off)) fun j=>some (.p n i j):=by
     funext ρ; congr 1; funext n i j; rw [aL]; rfl
    show PS P _ (fun ρ:Operand->V=>oP (ρ x) fun n i j=>aY (Nat.add j off) fun j=>some (V.p n i j))
    rw [e]
    exact kI (g:=fun j=>some (Nat.add j off)) h1 (fun j r h=>by cases h; rfl)
  · trivial
 | field s x f=>
  unfold aZ; dsimp only; split
  · rename_i off g n h1; exact xX h1
  · trivial
 | indexAddr t x i=>
  unfold aZ; dsimp only; split
  · rename_i e h1
    split
    · rename_i n h2; exact qM h1 h2
    · trivial
  · rename_i l e h1
    split
    · rename_i n h2; exact o9 h1 h2
    · trivial
  · trivial
 | index t x i=>
  unfold aZ; dsimp only; split
  · rename_i h1; exact vB h1
  · rename_i l e h1
    split
    · rename_i g n h2 h3; exact vC h1 h2 h3
    · trivial
  · trivial
 | lookup t x i ok=>
  unfold aZ; dsimp only; split
  case h_2=>trivial
  rename_i kt e h1
  split
  · rename_i z g h2 h3; exact v7 h1 h2 h3
  · trivial
 | mapUpdate t x i y=>
  unfold aZ; dsimp only; split
  case h_2=>trivial
  rename_i kt e h1
  split
  · rename_i g h2; exact (qS h1 h2).ms
  · trivial
 | typeAssert x t1 t ok=>
  unfold aZ; dsimp only; split
  · trivial
  · rename_i z d hne h1 h2; exact qO h1 h2 (fun ms he=>hne ms (by rw [<-he]))
  · trivial
 | range t x=>
  unfold aZ; dsimp only; split
  · rename_i h1; exact (wI h1).ms
  · rename_i a b h1; exact (vK h1).ms
  · trivial
 | next x b=>
  cases b with
  | false=>exact n_next.ms
  | true=>exact n_nextS.ms
 | _=>trivial
end
end Go.Z
namespace Go.Z
section
variable {P:Program} {X:Ctx} {β β':Bt} {h h':H} {w w':World} {n:Nat} {a:Act} {f:F} {ops:Array Oper}
def N.at {α:Type} (x:N α) (i:Nat):α:=match x,i with
 | .mk a0 a1 a2 a3 a4 a5 a6 a7 a8 a9 a10 a11 a12 a13 a14 a15,i=>match i with
  | 0=>a0 | 1=>a1 | 2=>a2 | 3=>a3 | 4=>a4 | 5=>a5 | 6=>a6 | 7=>a7 | 8=>a8 | 9=>a9 | 10=>a10 | 11=>a11 | 12=>a12 | 13=>a13 | 14=>a14 | _=>a15
def N.put {α:Type} (x:N α) (i:Nat) (v:α):N α:=match x,i with
 | .mk a0 a1 a2 a3 a4 a5 a6 a7 a8 a9 a10 a11 a12 a13 a14 a15,i=>match i with
  | 0=>.mk v a1 a2 a3 a4 a5 a6 a7 a8 a9 a10 a11 a12 a13 a14 a15
  | 1=>.mk a0 v a2 a3 a4 a5 a6 a7 a8 a9 a10 a11 a12 a13 a14 a15
  | 2=>.mk a0 a1 v a3 a4 a5 a6 a7 a8 a9 a10 a11 a12 a13 a14 a15
  | 3=>.mk a0 a1 a2 v a4 a5 a6 a7 a8 a9 a10 a11 a12 a13 a14 a15
  | 4=>.mk a0 a1 a2 a3 v a5 a6 a7 a8 a9 a10 a11 a12 a13 a14 a15
  | 5=>.mk a0 a1 a2 a3 a4 v a6 a7 a8 a9 a10 a11 a12 a13 a14 a15
  | 6=>.mk a0 a1 a2 a3 a4 a5 v a7 a8 a9 a10 a11 a12 a13 a14 a15
  | 7=>.mk a0 a1 a2 a3 a4 a5 a6 v a8 a9 a10 a11 a12 a13 a14 a15
  | 8=>.mk a0 a1 a2 a3 a4 a5 a6 a7 v a9 a10 a11 a12 a13 a14 a15
  | 9=>.mk a0 a1 a2 a3 a4 a5 a6 a7 a8 v a10 a11 a12 a13 a14 a15
  | 10=>.mk a0 a1 a2 a3 a4 a5 a6 a7 a8 a9 v a11 a12 a13 a14 a15
  | 11=>.mk a0 a1 a2 a3 a4 a5 a6 a7 a8 a9 a10 v a12 a13 a14 a15
  | 12=>.mk a0 a1 a2 a3 a4 a5 a6 a7 a8 a9 a10 a11 v a13 a14 a15
  | 13=>.mk a0 a1 a2 a3 a4 a5 a6 a7 a8 a9 a10 a11 a12 v a14 a15
  | 14=>.mk a0 a1 a2 a3 a4 a5 a6 a7 a8 a9 a10 a11 a12 a13 v a15
  | _=>.mk a0 a1 a2 a3 a4 a5 a6 a7 a8 a9 a10 a11 a12 a13 a14 v
theorem s4 {p:Nat->Prop} (h0:p 0) (h1:p 1) (h2:p 2) (h3:p 3) (h4:p 4) (h5:p 5) (h6:p 6) (h7:p 7) (h8:p 8) (h9:p 9) (h10:p 10) (h11:p 11) (h12:p 12) (h13:p 13) (h14:p 14) (h15:p 15):∀ i,i < 16->p i:=by
 intro i hi
 match i,hi with
 | 0,_=>exact h0 | 1,_=>exact h1 | 2,_=>exact h2 | 3,_=>exact h3 | 4,_=>exact h4 | 5,_=>exact h5 | 6,_=>exact h6 | 7,_=>exact h7
 | 8,_=>exact h8 | 9,_=>exact h9 | 10,_=>exact h10 | 11,_=>exact h11 | 12,_=>exact h12 | 13,_=>exact h13 | 14,_=>exact h14 | 15,_=>exact h15
 | n + 16,h=>omega
theorem N.at_put {α:Type} (x:N α) (v:α):∀ i,i < 16->∀ j,j < 16->(x.put i v).at j=if j=i then v else x.at j:=by
 cases x
 apply s4<;>(apply s4<;>rfl)
def slot (f:F) (t:Nat):V:=(f.at (t / 16)).at (t % 16)
noncomputable def kZ (f:F) (t:Nat) (v:V):F:=f.put (t / 16) ((f.at (t / 16)).put (t % 16) v)
theorem jT (f:F) (v:V) {t k:Nat} (ht:t < 256) (hk:k < 256):slot (kZ f t v) k=if k=t then v else slot f k:=by
 unfold slot kZ
 rw [N.at_put _ _ _ (by omega) _ (by omega)]
 by_cases h:k / 16=t / 16
 · rw [if_pos h,N.at_put _ _ _ (by omega) _ (by omega)]
   by_cases h2:k % 16=t % 16
   · rw [if_pos h2,if_pos (by omega)]
   · rw [if_neg h2,if_neg (by omega),h]
 · rw [if_neg h,if_neg (by intro e; subst e; exact h rfl)]
theorem zP (x:N V):∀ i,SV.rec (motive:=fun _=>V) (fun g _=>g x) (lQ i)=x.at i:=by
 intro i
 cases x
 match i with
 | 0 | 1 | 2 | 3 | 4 | 5 | 6 | 7 | 8 | 9 | 10 | 11 | 12 | 13 | 14=>rfl
 | n + 15=>rfl
theorem y8 (x:F):∀ i,SN.rec (motive:=fun _=>N V) (fun g _=>g x) (m5 i)=x.at i:=by
 intro i
 cases x
 match i with
 | 0 | 1 | 2 | 3 | 4 | 5 | 6 | 7 | 8 | 9 | 10 | 11 | 12 | 13 | 14=>rfl
 | n + 15=>rfl
theorem uL (t:Nat) (v:V) (f:F) (K:F->R):put (some t) v f K=K (kZ f t v):=by
 have h1:∀ (i:Nat) (x:N V) (k:N V->R),SV.rec (motive:=fun _=>R) (fun _ sv=>sv v x k) (lQ i)=k (x.put i v):=by
  intro i x k
  cases x
  match i with
  | 0 | 1 | 2 | 3 | 4 | 5 | 6 | 7 | 8 | 9 | 10 | 11 | 12 | 13 | 14=>rfl
  | n + 15=>rfl
 have h2:∀ (i:Nat) (g:(N V->N V)) (k:F->R) (J:N V->(N V->R)->R),(∀ x k,J x k=k (g x))->SN.rec (motive:=fun _=>R) (fun gg s=>J (gg f) fun r=>s r f k) (m5 i)=k (f.put i (g (f.at i))):=by
  intro i g k J hJ
  cases f
  match i with
  | 0 | 1 | 2 | 3 | 4 | 5 | 6 | 7 | 8 | 9 | 10 | 11 | 12 | 13 | 14=>exact hJ _ _
  | n + 15=>exact hJ _ _
 exact h2 (t / 16) (fun x=>x.put (t % 16) v) K (fun x k=>SV.rec (motive:=fun _=>R) (fun _ sv=>sv v x k) (lQ (t % 16))) (fun x k=>h1 _ x k)
theorem g3 (f:F) (t:Nat):rd f (.tmp t)=if t < 256 then slot f t else .k .w:=by
 show Opd.rec (motive:=fun _=>V) (fun g=>g f) (Bool.rec (.mk fun _=>.k .w) (.mk fun f=>SV.rec (motive:=fun _=>V) (fun g _=>g (SN.rec (motive:=fun _=>N V) (fun g' _=>g' f) (m5 (Nat.div t 16)))) (lQ (Nat.mod t 16))) (Nat.blt t 256):Opd)=_
 rw [bA]
 by_cases h:t < 256
 · rw [decide_eq_true h,if_pos h]
   show SV.rec (motive:=fun _=>V) (fun g _=>g (SN.rec (motive:=fun _=>N V) (fun g' _=>g' f) (m5 (Nat.div t 16)))) (lQ (Nat.mod t 16))=_
   rw [y8,zP]
   rfl
 · rw [decide_eq_false h,if_neg h]
structure FRel (n:Nat) (β:Bt) (f:F) (a:Act):Prop where
 size:a.tmps.size=n
 le:n<=256
 slot:∀ t,t < 256->VR β (slot f t) (a.tmps.getD t undef)
 defers:a.defers=[]
theorem FRel.mono (hs:Sub β β') (h:FRel n β f a):FRel n β' f a:=⟨h.size,h.le,fun t ht=>(h.slot t ht).mono hs,h.defers⟩
theorem gT (hf:FRel n β f a) (x:Operand):VR β (rd f x) (a.eval x):=by
 cases x with
 | tmp t=>
  rw [g3]
  split
  · rename_i h; exact hf.slot t h
  · exact .kw _
 | const v=>exact gU β v
 | global g=>exact .kw _
 | func g=>exact .f g [] [] [] [] rfl (by simp) rfl (by simp)
theorem zL (hf:FRel n β f a) (op:Op):jN β op (ρf f) a.eval:=fun x _=>gT hf x
theorem FRel.put (hf:FRel n β f a) {t:Nat} (ht:t < n) {v:V} {u:Value} (hv:VR β v u):FRel n β (kZ f t v) (a.put (some t) u):=by
 refine ⟨by simp [Act.put,hf.size],hf.le,fun k hk=>?_,hf.defers⟩
 have h256:=hf.le
 rw [jT f v (by omega) hk]
 have hg:(a.put (some t) u).tmps.getD k undef=if k=t then u else a.tmps.getD k undef:=by
  simp only [Act.put,Array.getD_eq_getD_getElem?,Array.getElem?_setIfInBounds]
  by_cases hkt:t=k
  · subst hkt
    simp [hf.size,ht]
  · have:¬ k=t:=fun e=>hkt e.symm
    simp [hkt,this]
 rw [hg]
 split
 · exact hv
 · exact hf.slot k hk
theorem eK {d:Option Tmp} (hd:gM n d=true) (hf:FRel n β f a) {v:V} {u:Value} (hv:VR β v u) {K:F->R} (hk:Z.put d v f K=true):∃ f',K f'=true/\FRel n β f' (a.put d u):=by
 cases d with
 | none=>exact ⟨f,hk,hf⟩
 | some t=>
  rw [uL] at hk
  have ht:t < n:=by
   have hd:Nat.blt t n=true:=hd
   rw [bA] at hd; exact of_decide_eq_true hd
  exact ⟨_,hk,hf.put ht hv⟩
theorem vF {E:Ev} (hE:c8 P E) {o:Oper} {od:Od} (hod:oU P o.op od) (hd:gM n o.dst=true) {s:String} {k:F->H->R} (hk:(jO s o.dst od).run E f h k=true) (hf:FRel n β f a) (hR:Rel X β h w) {next:Act->World->Prop} {Q:Exit->Act->World->Prop}
 (hK:∀ f' h' β' a' w',k f' h'=true->Ex β h β' h'->FRel n β' f' a'->Rel X β' h' w'->next a' w'):o.wp P a w next Q:=by
 have hr:=zL hf o.op
 cases od with
 | p g=>
  cases hg:g (ρf f) with
  | none=>
   have hk:Option.rec (motive:=fun _=>R) (bad s) (fun v=>Z.put o.dst v f fun f=>k f h) (g (ρf f))=true:=hk
   rw [hg] at hk; cases hk
  | some v=>
   have hk:Option.rec (motive:=fun _=>R) (bad s) (fun v=>Z.put o.dst v f fun f=>k f h) (g (ρf f))=true:=hk
   rw [hg] at hk
   obtain ⟨u,h1,h2⟩:=hod (ρf f) a.eval β v o rfl hr hg
   obtain ⟨f',q1,q2⟩:=eK hd hf h1 hk
   unfold Oper.wp
   rw [h2 w,Oper.upon_value]
   exact hK _ _ _ _ _ q1 (.refl _ _) q2 hR
 | q g=>
  cases hg:g (ρf f) h with
  | none=>
   have hk:Option.rec (motive:=fun _=>R) (bad s) (fun v=>Z.put o.dst v f fun f=>k f h) (g (ρf f) h)=true:=hk
   rw [hg] at hk; cases hk
  | some v=>
   have hk:Option.rec (motive:=fun _=>R) (bad s) (fun v=>Z.put o.dst v f fun f=>k f h) (g (ρf f) h)=true:=hk
   rw [hg] at hk
   obtain ⟨u,h1,h2⟩:=hod (ρf f) a.eval X β h w v o rfl hr hR hg
   obtain ⟨f',q1,q2⟩:=eK hd hf h1 hk
   unfold Oper.wp
   rw [h2,Oper.upon_value]
   exact hK _ _ _ _ _ q1 (.refl _ _) q2 hR
 | al g=>
  have hk:Al.rec (motive:=fun _=>R) (bad s) (fun b r=>push h b fun n h=>Z.put o.dst (r.v n) f fun f=>k f h) (fun v=>Z.put o.dst v f fun f=>k f h) (g (ρf f))=true:=hk
  obtain ⟨k1,k2⟩:=hod (ρf f) a.eval β o rfl hr
  cases hg:g (ρf f) with
  | no=>rw [hg] at hk; cases hk
  | mk b r=>
   rw [hg] at hk
   have hk:push h b (fun n h=>Z.put o.dst (r.v n) f fun f=>k f h)=true:=hk
   rw [dG] at hk
   obtain ⟨u,w',gg,q1,q2,q3⟩:=k2 b r hg X (hP h b) w (hN h) (hR.pushed b) hR.none (by simp) (fun b' hb'=>by rw [eJ] at hb'; exact (Option.some.inj hb').symm)
   obtain ⟨f',r1,r2⟩:=eK hd (hf.mono (fL gg hR.none)) q3 hk
   unfold Oper.wp
   rw [q1,Oper.upon_value]
   exact hK _ _ _ _ _ r1 ⟨fun m hm=>dS _ _ (by omega),by simp,fun m hm _=>cB _ _ hm⟩ r2 q2
  | val v=>
   rw [hg] at hk
   obtain ⟨u,w',q1,q2,q3,q4,q5,q6,q7⟩:=k1 v hg w
   obtain ⟨f',r1,r2⟩:=eK hd hf q1 hk
   unfold Oper.wp
   rw [q2,Oper.upon_value]
   exact hK _ _ _ _ _ r1 (.refl _ _) r2 (hR.aside q3 q4 q5 q6 q7)
 | m g=>
  have hk:g (ρf f) E h (fun v h=>Z.put o.dst v f fun f=>k f h)=true:=hk
  refine hod E hE (ρf f) a X β h w _ o rfl hr hR hk next Q fun v h' β' u w' q1 q2 q3 q4=>?_
  obtain ⟨f',r1,r2⟩:=eK hd (hf.mono (q2.sub hR)) q3 q1
  exact hK _ _ _ _ _ r1 q2 r2 q4
 | bad=>cases hk
theorem bC {o:Oper} (h:o.guard=none) (y:Nat->Option Bool):Region.wanted o y=true:=by unfold Region.wanted; rw [h]
theorem j4 {g:Option (Nat × Bool)} {t:Tmp} {want:Bool} (h:dC ops g=.yes t want):∃ j,g=some (j,want)/\(ops[j]?).bind (·.dst)=some t:=by
 unfold dC at h
 split at h
 · cases h
 · rename_i j w
   split at h
   · rename_i t' ht; cases h; exact ⟨j,rfl,ht⟩
   · cases h
theorem uC {g:Option (Nat × Bool)} (h:dC ops g=.no):g=none:=by
 unfold dC at h
 split at h
 · rfl
 · split at h<;>cases h
theorem iU (b:Bool):undef ≠ .bool b:=by intro h; cases h
theorem sR (hf:FRel n β f a) {o:Oper} {t:Tmp} {want b:Bool} (hg:dC ops o.guard=.yes t want) (hr:rd f (.tmp t)=.b b):Region.wanted o (yielded ops a.tmps)=(want == b):=by
 obtain ⟨j,h1,h2⟩:=j4 hg
 have hv:=gT hf (.tmp t)
 rw [hr] at hv
 have hv:VR β (.b b) (a.tmps.getD t undef):=hv
 generalize hu:a.tmps.getD t undef=u at hv
 cases hv
 rw [Array.getD_eq_getD_getElem?] at hu
 have ht:a.tmps[t]? = some (.bool b):=by
  cases hx:a.tmps[t]? with
  | none=>rw [hx] at hu; exact absurd hu (iU b)
  | some v=>rw [hx] at hu; exact congrArg some hu
 unfold Region.wanted yielded
 rw [h1]
 simp only [h2,Option.bind_some,ht]
 cases want<;>cases b<;>rfl
theorem qT (hf:FRel n β f a) {o:Oper} {t:Tmp} {want:Bool} (hg:dC ops o.guard=.yes t want) (hr:rd f (.tmp t)=.k .u):Region.wanted o (yielded ops a.tmps)=false:=by
 obtain ⟨j,h1,h2⟩:=j4 hg
 have hv:=gT hf (.tmp t)
 rw [hr] at hv
 have hv:VR β (.k .u) (a.tmps.getD t undef):=hv
 generalize hu:a.tmps.getD t undef=u at hv
 cases hv
 rw [Array.getD_eq_getD_getElem?] at hu
 unfold Region.wanted yielded
 rw [h1]
 simp only [h2,Option.bind_some]
 cases hx:a.tmps[t]? with
 | none=>rfl
 | some v=>
  rw [hx] at hu
  have hu:v=undef:=hu
  subst hu
  rfl
theorem wF {E:Ev} (hE:c8 P E) {o:Oper} {k:F->H->R} (hk:(jd P n ops o).run E f h k=true) (hf:FRel n β f a) (hR:Rel X β h w) {next:Act->World->Prop} {Q:Exit->Act->World->Prop}
 (hK:∀ f' h' β' a' w',k f' h'=true->Ex β h β' h'->FRel n β' f' a'->Rel X β' h' w'->next a' w'):if Region.wanted o (yielded ops a.tmps) then o.wp P a w next Q else next (a.put o.dst undef) w:=by
 unfold jd at hk
 cases hd:gM n o.dst with
 | false=>rw [hd] at hk; cases hk
 | true=>
  rw [hd] at hk
  simp only [cond_true] at hk
  have run:(jO o.pos o.dst (aZ P o.op)).run E f h k=true->o.wp P a w next Q:=fun hk=>vF hE (jU o.op) hd hk hf hR hK
  have skip:Z.put o.dst (.k .u) f (fun f=>k f h)=true->next (a.put o.dst undef) w:=fun hk=>by
   obtain ⟨f',q1,q2⟩:=eK hd hf .ku hk
   exact hK _ _ _ _ _ q1 (.refl _ _) q2 hR
  split at hk
  · rename_i hg
    rw [if_pos (bC (uC hg) _)]
    exact run hk
  · rename_i t want hg
    have hk:(match rd f (.tmp t) with
     | .b b=>Bool.rec (Z.put o.dst (.k .u) f fun f=>k f h) ((jO o.pos o.dst (aZ P o.op)).run E f h k) (fB want b)
     | .k .u=>Z.put o.dst (.k .u) f fun f=>k f h
     | _=>bad "guard")=true:=hk
    split at hk
    · rename_i b hb
      rw [sR hf hg hb]
      rw [bD,dX] at hk
      split at hk
      · rename_i hw; rw [if_pos hw]; exact run hk
      · rename_i hw; rw [if_neg hw]; exact skip hk
    · rename_i hb
      rw [qT hf hg hb]
      simp only [Bool.false_eq_true,if_false]
      exact skip hk
    · cases hk
  · cases hk
theorem nY {E:Ev} (hE:c8 P E) {Q:Exit->Act->World->Prop}:∀ (l:List Oper) (f:F) (h:H) (β:Bt) (a:Act) (w:World) (k:F->H->R),(z8 P n ops l).run E f h k=true->FRel n β f a->Rel X β h w->
 (∀ f' h' β' a' w',k f' h'=true->Ex β h β' h'->FRel n β' f' a'->Rel X β' h' w'->Q .normal a' w')->wpList P ops Q l a w
 | [],f,h,β,a,w,k,hk,hf,hR,hQ=>hQ _ _ _ _ _ hk (.refl _ _) hf hR
 | o :: l,f,h,β,a,w,k,hk,hf,hR,hQ=>by
  have hk:(jd P n ops o).run E f h (fun f h=>(z8 P n ops l).run E f h k)=true:=hk
  have:=wF (next:=wpList P ops Q l) (Q:=Q) hE hk hf hR fun f' h' β' a' w' q1 q2 q3 q4=>nY hE l f' h' β' a' w' k q1 q3 q4 fun f2 h2 β2 a2 w2 r1 r2 r3 r4=>hQ _ _ _ _ _ r1 (q2.trans r2) r3 r4
  simp only [wpList]
  split
  · rename_i hw; rw [if_pos hw] at this; exact .inl this
  · rename_i hw; rw [if_neg hw] at this; exact this
end
end Go.Z
namespace Go.Z
theorem yJ {c d:Kc} (h:w4 c=w4 d):c=d:=by cases c<;>cases d<;>first | rfl | cases h
theorem g8 {g:V->V->Bool} (hg:∀ a b,g a b=true->a=b):∀ (l m:List V),lG g l m=true->l=m
 | [],[],_=>rfl
 | [],b :: m,h=>by cases h
 | a :: l,[],h=>by cases h
 | a :: l,b :: m,h=>by
  rw [lG,Bool.and_eq_true] at h
  rw [hg a b h.1,g8 hg l m h.2]
theorem b8 {a b:Nat} (h:Nat.beq a b=true):a=b:=Nat.eq_of_beq_eq_true h
theorem zO:∀ (d:Nat) (a b:V),d6 d a b=true->a=b:=by
 intro d
 induction d with
 | zero=>intro a b h; cases h
 | succ d ih=>
  intro a b h
  cases a<;>cases b<;>first | (cases h; done) | skip
  · simp only [d6,Bool.and_eq_true] at h; rw [b8 h.1.1,g8 ih _ _ h.1.2,g8 ih _ _ h.2]
  · simp only [d6,Bool.and_eq_true] at h; rw [b8 h.1,ih _ _ h.2]
  · simp only [d6] at h; rw [g8 ih _ _ h]
  · simp only [d6] at h; rw [yJ (b8 h)]
  · simp only [d6] at h; rw [b8 h]
  · simp only [d6,Bool.and_eq_true] at h; rw [b8 h.1.1.1.1,b8 h.1.1.1.2,b8 h.1.1.2,b8 h.1.2,b8 h.2]
  · simp only [d6,Bool.and_eq_true] at h; rw [b8 h.1.1.1,b8 h.1.1.2,b8 h.1.2,b8 h.2]
  · simp only [d6] at h
    unfold kW at h
    rw [bD] at h
    split at h
    · rename_i h1; rw [b8 h1,b8 h]
    · cases h
  · simp only [d6] at h; rw [g8 ih _ _ h]
  · simp only [d6,Bool.and_eq_true] at h; rw [b8 h.1.1,b8 h.1.2,b8 h.2]
  · simp only [d6,dX] at h; rw [eq_of_beq h]
  · simp only [d6,Bool.and_eq_true,eY] at h; rw [mG h.1,of_decide_eq_true h.2]
theorem lN {h:H}:∀ {l:List Pd},qL h l=true->∀ (i:Nat) (g:H->Option V) (v:V),Pd.mk i g v ∈ l->g h=some v
 | [],_,i,g,v,hm=>by cases hm
 | p :: l,hr,i,g,v,hm=>by
  have hr:(Bool.rec (motive:=fun _=>Bool) false (qL h l) (p.ok h):Bool)=true:=hr
  rw [bD] at hr
  split at hr
  · rename_i hp
    rcases List.mem_cons.1 hm with rfl | hm
    · have hp:(Option.rec (motive:=fun _=>Bool) false (fun v'=>d6 8 v v') (g h):Bool)=true:=hp
      cases hg:g h with
      | none=>rw [hg] at hp; cases hp
      | some v'=>rw [hg] at hp; rw [zO 8 v v' hp]
    · exact lN hr i g v hm
  · cases hr
theorem j5 {ds:List Nat} {i:Nat} {g:H->Option V} {v:V} (hi:i ∉ ds):∀ {l:List Pd},Pd.mk i g v ∈ l->Pd.mk i g v ∈ mP ds l
 | [],h=>by cases h
 | p :: l,h=>by
  show _ ∈ (Bool.rec (motive:=fun _=>List Pd) (p :: mP ds l) (mP ds l) (Pd.rec (motive:=fun _=>Bool) (fun i _ _=>bY i ds) p):List Pd)
  rw [bD]
  rcases List.mem_cons.1 h with rfl | h
  · have hn:¬ bY i ds=true:=fun h=>hi (by rw [fZ] at h; simpa using h)
    show Pd.mk i g v ∈ (if bY i ds=true then mP ds l else Pd.mk i g v :: mP ds l)
    rw [if_neg hn]
    simp
  · split
    · exact j5 hi h
    · exact List.mem_cons_of_mem _ (j5 hi h)
def Dn (l:Array Bool) (i:Nat):Prop:=l.getD i false=true
theorem mO {l:Array Bool} {i j:Nat} (d:Bool) (h:i ≠ j):(l.setIfInBounds i true).getD j d=l.getD j d:=by
 simp only [Array.getD_eq_getD_getElem?,Array.getElem?_setIfInBounds]
 simp [h]
theorem cT {l:Array Bool} {k:Nat} (h:k < l.size):Dn (l.setIfInBounds k true) k:=by simp [Dn,h]
theorem aU {l:Array Bool} {k i:Nat} (h:Dn (l.setIfInBounds k true) i):Dn l i\/i=k:=by
 by_cases e:k=i
 · exact .inr e.symm
 · unfold Dn at h; rw [mO false e] at h; exact .inl h
theorem bF {l:Array Bool} {k i:Nat} (h:Dn l i):Dn (l.setIfInBounds k true) i:=by
 by_cases e:k=i
 · subst e
   have hlt:k < l.size:=by
    refine Classical.byContradiction fun hn=>?_
    unfold Dn at h
    rw [Array.getD_eq_getD_getElem?,Array.getElem?_eq_none (by omega)] at h
    cases h
   exact cT hlt
 · unfold Dn at h ⊢; rw [mO false e]; exact h
def cnt (n:Nat) (l:Array Bool):Nat:=((List.range n).filter fun i=>!l.getD i false).length
theorem g6 {p q:Nat->Bool} (h:∀ i,q i=true->p i=true) {k:Nat} (hp:p k=true) (hq:q k=false):∀ (l:List Nat),k ∈ l->(l.filter q).length < (l.filter p).length
 | [],hk=>by cases hk
 | x :: l,hk=>by
  have hle:(l.filter q).length<=(l.filter p).length:=by
   clear hk
   induction l with
   | nil=>exact Nat.le_refl _
   | cons y l ih=>
    simp only [List.filter_cons]
    cases hy:q y with
    | true=>rw [h y hy]; simpa using ih
    | false=>cases p y<;>simp<;>omega
  simp only [List.filter_cons]
  rcases List.mem_cons.1 hk with rfl | hk
  · rw [hp,hq]; simp; omega
  · have:=g6 h hp hq l hk
    cases hx:q x with
    | true=>rw [h x hx]; simpa using this
    | false=>cases p x<;>simp<;>omega
theorem fO {n:Nat} {l:Array Bool} {k:Nat} (hk:k < n) (hs:l.size=n) (hu:¬ Dn l k):cnt n (l.setIfInBounds k true) < cnt n l:=by
 refine g6 (fun i hi=>?_) (k:=k) (by simpa [Dn] using hu) ?_ _ (List.mem_range.2 hk)
 · cases hd:l.getD i false with
   | false=>rfl
   | true=>have:=bF (k:=k) (show Dn l i from hd); unfold Dn at this; rw [this] at hi; cases hi
 · have:=cT (l:=l) (k:=k) (by omega); unfold Dn at this; rw [this]; rfl
theorem kX {n:Nat} {l:Array Bool} (h:cnt n l=0):∀ i,i < n->Dn l i:=fun i hi=>by
 have:(List.range n).filter (fun i=>!l.getD i false)=[]:=List.eq_nil_of_length_eq_zero h
 have:=List.filter_eq_nil_iff.1 this i (List.mem_range.2 hi)
 simpa [Dn] using this
section
variable {P:Program} {os:Array Oper}
theorem q9 {o:Oper} {x:Nat}:x ∈ cL o ↔ ∃ e ∈ o.after,Region.binds .any e=true/\e.on=x:=by
 unfold cL
 simp only [List.mem_map,List.mem_filter]
 constructor
 · rintro ⟨e,⟨h1,h2⟩,h3⟩; exact ⟨e,by simpa using h1,h2,h3⟩
 · rintro ⟨e,h1,h2,h3⟩; exact ⟨e,⟨by simpa using h1,h2⟩,h3⟩
theorem d7 {x:Nat} {l:List Nat}:bY x l=true ↔ x ∈ l:=by rw [fZ]; simp
theorem uH {x:Nat} {l:List Nat}:ng (bY x l)=true ↔ x ∉ l:=by rw [fZ,eA]; simp
structure Ck (P:Program) (os:Array Oper) (p:List Nat) (i:Nat) (o:Oper):Prop where
 ho:os[i]? = some o
 new:i ∉ p
 wt:∀ e ∈ cL o,e ∈ p
 k3:∀ p1 m p2,p=p1 ++ m :: p2->isM P os m=true->∃ e ∈ cL o,e ∈ m :: p2
 ds:∀ j ∈ p,∀ t,eO os j=some t->o.dst ≠ some t
 cf1:∀ j ∈ p,∀ t,eO os j=some t->t ∈ cU os o->j ∈ cL o
 cf2:∀ j ∈ p,∀ t,o.dst=some t->t ∈ pS os j->j ∈ cL o
theorem fM:∀ (q p dn sm:List Nat) (hm:Bool),(∀ x,x ∈ dn ↔ x ∈ p)->(∀ p1 m p2,p=p1 ++ m :: p2->isM P os m=true->hm=true/\∀ x ∈ sm,x ∈ m :: p2)->eB P os dn sm hm q=true->
 ∀ p' i r,q=p' ++ i :: r->∃ o,Ck P os (p ++ p') i o
 | [],p,dn,sm,hm,_,_,_,p',i,r,e=>by simp at e
 | k :: q,p,dn,sm,hm,hdn,hM,hc,p',i,r,e=>by
  rw [eB] at hc
  cases ho:os[k]? with
  | none=>rw [ho] at hc; cases hc
  | some o=>
   rw [ho] at hc
   simp only [Bool.and_eq_true] at hc
   obtain ⟨⟨⟨⟨c1,c2⟩,c3⟩,c4⟩,c5⟩:=hc
   rw [uH] at c1
   rw [List.all_eq_true] at c2 c4
   have hck:Ck P os p k o:=by
    refine ⟨ho,fun h=>c1 ((hdn k).2 h),fun e he=>(hdn e).1 (d7.1 (c2 e he)),fun p1 m p2 hp hm'=>?_,fun j hj t ht hd=>?_,fun j hj t ht hr=>?_,fun j hj t ht hr=>?_⟩
    · obtain ⟨h1,h2⟩:=hM p1 m p2 hp hm'
      subst h1
      rw [Bool.or_eq_true] at c3
      rcases c3 with c3 | c3
      · cases c3
      · rw [List.any_eq_true] at c3
        obtain ⟨e,he,h3⟩:=c3
        exact ⟨e,he,h2 e (d7.1 h3)⟩
    · have:=c4 j ((hdn j).2 hj)
      rw [Bool.and_eq_true] at this
      have h1:=this.1
      rw [ht,hd,eA] at h1
      simp [BU] at h1
    · have:=c4 j ((hdn j).2 hj)
      rw [Bool.and_eq_true,Bool.or_eq_true] at this
      rcases this.2 with h1 | h1
      · rw [eA] at h1
        have:xE (eO os j) (cU os o)=true:=by rw [ht]; exact d7.2 hr
        rw [this] at h1
        simp at h1
      · exact d7.1 h1
    · have:=c4 j ((hdn j).2 hj)
      rw [Bool.and_eq_true,Bool.or_eq_true] at this
      rcases this.2 with h1 | h1
      · rw [eA] at h1
        have:xE o.dst (pS os j)=true:=by rw [ht]; exact d7.2 hr
        rw [this] at h1
        simp at h1
      · exact d7.1 h1
   cases p' with
   | nil=>
    simp only [List.nil_append,List.cons.injEq] at e
    obtain ⟨rfl,rfl⟩:=e
    exact ⟨o,by rw [List.append_nil]; exact hck⟩
   | cons y p'=>
    simp only [List.cons_append,List.cons.injEq] at e
    obtain ⟨rfl,e⟩:=e
    have:=fM q (p ++ [k]) (k :: dn) _ _ (fun x=>by simp [hdn]; exact Or.comm) (fun p1 m p2 hp hm'=>?_) c5 p' i r e
    · simpa using this
    · rcases List.eq_nil_or_concat p2 with rfl | ⟨p2',z,rfl⟩
      · have:=List.append_inj' hp rfl
        have hk:k=m:=by simpa using this.2
        subst hk
        rw [hm']
        simp
      · have hp':p ++ [k]=(p1 ++ m :: p2') ++ [z]:=by rw [hp]; simp
        have:=List.append_inj' hp' rfl
        have hz:k=z:=by simpa using this.2
        subst hz
        obtain ⟨h1,h2⟩:=hM p1 m p2' this.1 hm'
        refine ⟨by rw [h1]; rfl,fun x hx=>?_⟩
        cases hk:isM P os k with
        | true=>rw [hk] at hx; simp at hx; subst hx; simp
        | false=>
         rw [hk] at hx
         simp only [cond_false,List.mem_cons] at hx
         rcases hx with rfl | hx
         · simp
         · have:=h2 x hx
           simp only [List.mem_cons] at this
           rcases this with rfl | this
           · simp
           · simp [this]
end
theorem dW:∀ (n:Nat) (l:List Nat),l.Nodup->(∀ k ∈ l,k < n)->l.length<=n
 | 0,l,_,h=>by
  cases l with
  | nil=>exact Nat.le_refl _
  | cons x l=>exact absurd (h x (by simp)) (by omega)
 | n + 1,l,hn,h=>by
  by_cases hm:n ∈ l
  · have h1:=dW n (l.erase n) (hn.erase n) fun k hk=>by
     obtain ⟨h2,h3⟩:=(hn.mem_erase_iff).1 hk
     have:=h k h3
     omega
    have h2:=List.length_erase_of_mem hm
    omega
  · have:=dW n l hn fun k hk=>by
     have h3:=h k hk
     have:k ≠ n:=fun e=>hm (e ▸ hk)
     omega
    omega
section
variable {P:Program} {os:Array Oper}
structure Ok (P:Program) (os:Array Oper) (π:List Nat):Prop where
 ck:∀ p i r,π=p ++ i :: r->∃ o,Ck P os p i o
 all:∀ i,i < os.size->i ∈ π
theorem Ok.of {π:List Nat} (h:eB P os [] [] false π=true) (hl:π.length=os.size):Ok P os π:=by
 have hck:∀ p i r,π=p ++ i :: r->∃ o,Ck P os p i o:=fun p i r e=>by
  have:=fM π [] [] [] false (fun x=>Iff.rfl) (fun p1 m p2 hp=>by simp at hp) h p i r e
  simpa using this
 refine ⟨hck,?_⟩
 have hnd:π.Nodup:=by
  have key:∀ (q p:List Nat),π=p ++ q->p.Nodup->(p ++ q).Nodup:=fun q=>by
   induction q with
   | nil=>intro p _ hp; simpa using hp
   | cons x q ih=>
    intro p e hp
    obtain ⟨o,h1⟩:=hck p x q e
    have:=ih (p ++ [x]) (by rw [e]; simp) (by
     rw [List.nodup_append]
     exact ⟨hp,List.nodup_cons.2 ⟨by simp,List.nodup_nil⟩,fun a ha b hb=>by rw [List.mem_singleton.1 hb]; rintro rfl; exact h1.new ha⟩)
    simpa using this
  have:=key π [] rfl List.nodup_nil
  simpa using this
 have hlt:∀ i ∈ π,i < os.size:=fun i hi=>by
  obtain ⟨p,r,e⟩:=List.append_of_mem hi
  obtain ⟨o,h1⟩:=hck p i r e
  exact (Array.getElem?_eq_some_iff.1 h1.ho).1
 intro i hi
 refine Classical.byContradiction fun hn=>?_
 have:=dW os.size (i :: π) (List.nodup_cons.2 ⟨hn,hnd⟩) fun k hk=>by
  rcases List.mem_cons.1 hk with rfl | hk
  · exact hi
  · exact hlt k hk
 rw [List.length_cons,hl] at this
 omega
end
end Go.Z
namespace Go.Z
section
variable {P:Program} {os:Array Oper} {X:Ctx} {β β' β0:Bt} {h h' h0:H} {w w':World} {n:Nat} {a:Act} {f:F} {π:List Nat}
noncomputable def pf (d:Option Tmp) (v:V) (f:F):F:=match d with
 | some t=>kZ f t v
 | none=>f
theorem fR (d:Option Tmp) (v:V) (f:F) (K:F->R):put d v f K=K (pf d v f):=by
 cases d with
 | none=>rfl
 | some t=>exact uL t v f K
theorem l7 {t:Nat} {d:Option Tmp} {v:V} (h:d=some t) (ht:t < 256):slot (pf d v f) t=v:=by
 subst h
 show slot (kZ f t v) t=v
 rw [jT f v ht ht,if_pos rfl]
theorem fG {t:Nat} {d:Option Tmp} {v:V} (hd:gM n d=true) (hn:n<=256) (h:d ≠ some t) (ht:t < 256):slot (pf d v f) t=slot f t:=by
 cases d with
 | none=>rfl
 | some k=>
  have hk:k < n:=by
   have hd:Nat.blt k n=true:=hd
   rw [bA] at hd; exact of_decide_eq_true hd
  show slot (kZ f k v) t=slot f t
  rw [jT f v (Nat.lt_of_lt_of_le hk hn) ht,if_neg (by rintro rfl; exact h rfl)]
theorem iN {t:Nat} {d:Option Tmp} {u:Value} (hs:a.tmps.size=n) (hd:gM n d=true) (h:d=some t):(a.put d u).tmps.getD t undef=u:=by
 subst h
 have hk:t < n:=by
  have hd:Nat.blt t n=true:=hd
  rw [bA] at hd; exact of_decide_eq_true hd
 simp [Act.put,Array.getD_eq_getD_getElem?,hs,hk]
theorem fJ {t:Nat} {d:Option Tmp} {u:Value} (h:d ≠ some t):(a.put d u).tmps.getD t undef=a.tmps.getD t undef:=by
 cases d with
 | none=>rfl
 | some k=>
  have:¬ k=t:=by rintro rfl; exact h rfl
  simp [Act.put,Array.getD_eq_getD_getElem?,Array.getElem?_setIfInBounds,this]
theorem put_size {d:Option Tmp} {u:Value}:(a.put d u).tmps.size=a.tmps.size:=by cases d<;>simp [Act.put]
theorem put_defers {d:Option Tmp} {u:Value}:(a.put d u).defers=a.defers:=by cases d<;>rfl
def tH (os:Array Oper) (o:Oper) (f:F):Prop:=∃ t want,dC os o.guard=.yes t want/\((∃ b,rd f (.tmp t)=.b b/\(want == b)=false)\/rd f (.tmp t)=.k .u)
def k9 (os:Array Oper) (o:Oper) (f:F):Prop:=dC os o.guard=.no\/∃ t want,dC os o.guard=.yes t want/\∃ b,rd f (.tmp t)=.b b/\(want == b)=true
theorem uA {o:Oper} (hg:tH os o f) (hv:∀ t ∈ cU os o,t < 256->VR β (slot f t) (a.tmps.getD t undef)):Region.wanted o (yielded os a.tmps)=false:=by
 obtain ⟨t,want,h1,h2⟩:=hg
 obtain ⟨j,h3,h4⟩:=j4 h1
 have hmem:t ∈ cU os o:=by unfold cU; rw [h1]; simp
 have h256:t < 256:=by
  refine Classical.byContradiction fun hn=>?_
  have:rd f (.tmp t)=.k .w:=by rw [g3,if_neg hn]
  rcases h2 with ⟨b,h2,_⟩ | h2<;>(rw [this] at h2; cases h2)
 have hv:=hv t hmem h256
 rw [g3,if_pos h256] at h2
 generalize hu:a.tmps.getD t undef=u at hv
 rw [Array.getD_eq_getD_getElem?] at hu
 unfold Region.wanted yielded
 rw [h3]
 simp only [h4,Option.bind_some]
 cases hx:a.tmps[t]? with
 | none=>rfl
 | some v=>
  rw [hx] at hu
  have hu:v=u:=hu
  subst hu
  rcases h2 with ⟨b,h2,h5⟩ | h2
  · rw [h2] at hv
    cases hv
    cases want<;>cases b<;>first | rfl | cases h5
  · rw [h2] at hv
    cases hv
    rfl
theorem xS {o:Oper} (hg:k9 os o f) (hv:∀ t ∈ cU os o,t < 256->VR β (slot f t) (a.tmps.getD t undef)):Region.wanted o (yielded os a.tmps)=true:=by
 rcases hg with hg | ⟨t,want,h1,b,h2,h5⟩
 · exact bC (uC hg) _
 · obtain ⟨j,h3,h4⟩:=j4 h1
   have hmem:t ∈ cU os o:=by unfold cU; rw [h1]; simp
   have h256:t < 256:=by
    refine Classical.byContradiction fun hn=>?_
    have:rd f (.tmp t)=.k .w:=by rw [g3,if_neg hn]
    rw [this] at h2; cases h2
   have hv:=hv t hmem h256
   rw [g3,if_pos h256] at h2
   rw [h2] at hv
   generalize hu:a.tmps.getD t undef=u at hv
   cases hv
   rw [Array.getD_eq_getD_getElem?] at hu
   have ht:a.tmps[t]? = some (.bool b):=by
    cases hx:a.tmps[t]? with
    | none=>rw [hx] at hu; exact absurd hu (iU b)
    | some v=>rw [hx] at hu; exact congrArg some hu
   unfold Region.wanted yielded
   rw [h3]
   simp only [h4,Option.bind_some,ht]
   cases want<;>cases b<;>first | rfl | cases h5
theorem oF {t:Nat}:∀ {l:List Operand},.tmp t ∈ l->t ∈ j1 l
 | [],h=>by cases h
 | x :: l,h=>by
  rcases List.mem_cons.1 h with rfl | h
  · simp [j1]
  · have hh:=oF h
    cases x<;>simp [j1,hh]
theorem t7 {o:Oper} (hv:∀ t ∈ cU os o,t < 256->VR β (slot f t) (a.tmps.getD t undef)):jN β o.op (ρf f) a.eval:=by
 intro x hx
 show VR β (rd f x) (a.eval x)
 cases x with
 | tmp t=>
  rw [g3]
  split
  · rename_i h
    exact hv t (by unfold cU; rw [List.mem_append]; exact .inr (oF (by simpa using hx))) h
  · exact .kw _
 | const v=>exact gU β v
 | global g=>exact .kw _
 | func g=>exact .f g [] [] [] [] rfl (by simp) rfl (by simp)
inductive Val (P:Program) (os:Array Oper) (h:H) (pl:List Pd) (f:F) (id:Nat->Nat) (al:List Nat) (j:Nat) (o:Oper) (fj:F):Prop
 | skip (hg:tH os o fj) (hd:∀ t,o.dst=some t->t < 256->slot f t=.k .u)
 | p (g:(Operand->V)->Option V) (v:V) (hw:k9 os o fj) (ht:aZ P o.op=.p g) (hg:g (ρf fj)=some v) (hd:∀ t,o.dst=some t->t < 256->slot f t=v)
 | q (g:(Operand->V)->H->Option V) (v:V) (hw:k9 os o fj) (ht:aZ P o.op=.q g) (hm:Pd.mk j (fun h=>g (ρf fj) h) v ∈ pl) (hg:g (ρf fj) h=some v) (hd:∀ t,o.dst=some t->t < 256->slot f t=v)
 | av (g:(Operand->V)->Al) (v:V) (hw:k9 os o fj) (ht:aZ P o.op=.al g) (hg:g (ρf fj)=.val v) (hd:∀ t,o.dst=some t->t < 256->slot f t=v)
 | al (g:(Operand->V)->Al) (b:Bk) (r:Rf) (hw:k9 os o fj) (ht:aZ P o.op=.al g) (hg:g (ρf fj)=.mk b r) (hj:j ∈ al) (hb:∀ b',hG h (id j)=some b'->b'=b) (hd:∀ t,o.dst=some t->t < 256->slot f t=r.v (id j))
theorem Val.dst_of {pl:List Pd} {id:Nat->Nat} {al:List Nat} {j:Nat} {o:Oper} {fj f':F} (hv:Val P os h pl f id al j o fj) (hs:∀ t,o.dst=some t->t < 256->slot f' t=slot f t):Val P os h pl f' id al j o fj:=by
 cases hv with
 | skip hg hd=>exact .skip hg fun t h1 h2=>(hs t h1 h2).trans (hd t h1 h2)
 | p g v hw ht hg hd=>exact .p g v hw ht hg fun t h1 h2=>(hs t h1 h2).trans (hd t h1 h2)
 | q g v hw ht hm hg hd=>exact .q g v hw ht hm hg fun t h1 h2=>(hs t h1 h2).trans (hd t h1 h2)
 | av g v hw ht hg hd=>exact .av g v hw ht hg fun t h1 h2=>(hs t h1 h2).trans (hd t h1 h2)
 | al g b r hw ht hg hj hb hd=>exact .al g b r hw ht hg hj hb fun t h1 h2=>(hs t h1 h2).trans (hd t h1 h2)
theorem Val.heap {pl pl':List Pd} {id id':Nat->Nat} {al al':List Nat} {j:Nat} {o:Oper} {fj:F} (hv:Val P os h pl f id al j o fj) (hq:∀ g v,Pd.mk j g v ∈ pl->Pd.mk j g v ∈ pl'/\(g h=some v->g h'=some v)) (ha:j ∈ al->j ∈ al'/\id' j=id j/\hG h' (id j)=hG h (id j)):Val P os h' pl' f id' al' j o fj:=by
 cases hv with
 | skip hg hd=>exact .skip hg hd
 | p g v hw ht hg hd=>exact .p g v hw ht hg hd
 | q g v hw ht hm hg hd=>exact .q g v hw ht (hq _ _ hm).1 ((hq _ _ hm).2 hg) hd
 | av g v hw ht hg hd=>exact .av g v hw ht hg hd
 | al g b r hw ht hg hj hb hd=>
  obtain ⟨h1,h2,h3⟩:=ha hj
  exact .al g b r hw ht hg h1 (fun b' hb'=>hb b' (by rw [h2,h3] at hb'; exact hb')) (by rw [h2]; exact hd)
structure Inv (P:Program) (os:Array Oper) (X:Ctx) (n:Nat) (β0:Bt) (h0:H) (π:List Nat) (fu:Nat) (r p:List Nat) (l:Array Bool) (f:F) (h:H) (pl:List Pd) (id:Nat->Nat) (al:List Nat) (β:Bt) (a:Act) (w:World):Prop where
 ord:π=p ++ r
 size:l.size=os.size
 sub:∀ i,Dn l i->i ∈ p
 ms:∀ i ∈ p,isM P os i=true->Dn l i
 fuel:cnt os.size l<=fu
 rel:Rel X β h w
 ex:Ex β0 h0 β h
 asz:a.tmps.size=n
 n256:n<=256
 dfr:a.defers=[]
 fr:∀ t,t < 256->(∀ i ∈ p,¬ Dn l i->eO os i ≠ some t)->VR β (slot f t) (a.tmps.getD t undef)
 alf:∀ j ∈ al,j ∈ p/\hN h0<=id j/\id j < hN h/\β (id j)=none
 ali:∀ j ∈ al,∀ j' ∈ al,id j=id j'->j=j'
 pend:∀ j ∈ p,¬ Dn l j->∃ o fj,os[j]? = some o/\gM n o.dst=true/\(∀ t ∈ cU os o,t < 256->∀ i ∈ p,¬ Dn l i->i ∈ cL o->eO os i=some t->slot fj t=slot f t)/\
  (∀ t ∈ cU os o,t < 256->(∀ i ∈ p,¬ Dn l i->i ∈ cL o->eO os i ≠ some t)->VR β (slot fj t) (a.tmps.getD t undef))/\Val P os h pl f id al j o fj
theorem dst_of {j:Nat} {o:Oper} (ho:os[j]? = some o):eO os j=o.dst:=by unfold eO; rw [ho]; rfl
theorem uG {j:Nat} {o:Oper} (ho:os[j]? = some o):pS os j=cU os o:=by unfold pS; rw [ho]
theorem Ok.two (ok:Ok P os π) {p r:List Nat} (e:π=p ++ r) {i j:Nat} (hi:i ∈ p) (hj:j ∈ p) (hij:i ≠ j):∃ q oi oj,(∀ x ∈ q,x ∈ p)/\(Ck P os q i oi/\j ∈ q/\os[j]? = some oj\/Ck P os q j oj/\i ∈ q/\os[i]? = some oi):=by
 obtain ⟨p1,p2,e1⟩:=List.append_of_mem hi
 rw [e1] at hj
 obtain ⟨oi,ci⟩:=ok.ck p1 i (p2 ++ r) (by rw [e,e1]; simp)
 rcases List.mem_append.1 hj with hj1 | hj1
 · obtain ⟨p3,p4,e2⟩:=List.append_of_mem hj1
   obtain ⟨oj,cj⟩:=ok.ck p3 j (p4 ++ i :: (p2 ++ r)) (by rw [e,e1,e2]; simp)
   exact ⟨p1,oi,oj,fun x hx=>by rw [e1]; simp [hx],.inl ⟨ci,hj1,cj.ho⟩⟩
 · rcases List.mem_cons.1 hj1 with rfl | hj2
   · exact absurd rfl hij
   · obtain ⟨p3,p4,e2⟩:=List.append_of_mem hj2
     obtain ⟨oj,cj⟩:=ok.ck (p1 ++ i :: p3) j (p4 ++ r) (by rw [e,e1,e2]; simp)
     exact ⟨p1 ++ i :: p3,oi,oj,fun x hx=>by rw [e1,e2]; simp at hx ⊢; rcases hx with hx | hx | hx<;>simp [hx],.inr ⟨cj,by simp,ci.ho⟩⟩
theorem Ok.conf (ok:Ok P os π) {p r:List Nat} (e:π=p ++ r) {i j:Nat} (hi:i ∈ p) (hj:j ∈ p) (hij:i ≠ j) {oi oj:Oper} (hoi:os[i]? = some oi) (hoj:os[j]? = some oj) {t:Nat} (h1:eO os i=some t) (h2:t ∈ cU os oj):i ∈ cL oj\/j ∈ cL oi:=by
 obtain ⟨q,oi',oj',_,⟨c,hm,ho⟩ | ⟨c,hm,ho⟩⟩:=ok.two e hi hj hij
 · have e1:=c.ho; rw [hoi] at e1; cases e1
   exact .inr (c.cf2 j hm t (by rw [<-dst_of hoi]; exact h1) (by rw [uG hoj]; exact h2))
 · have e1:=c.ho; rw [hoj] at e1; cases e1
   exact .inl (c.cf1 i hm t h1 h2)
theorem bW {l:Array Bool} {k:Nat} (h:k ∈ Region.ready .any os l):¬ Dn l k/\∃ o,os[k]? = some o/\∀ e ∈ cL o,Dn l e:=by
 obtain ⟨h1,o,h2,h3⟩:=mem_ready.1 h
 refine ⟨fun hd=>?_,o,h2,fun e he=>?_⟩
 · unfold Dn at hd
   rw [Array.getD_eq_getD_getElem?] at h1 hd
   cases hx:l[k]? with
   | none=>rw [hx] at h1; cases h1
   | some b=>rw [hx] at h1 hd; simp at h1 hd; rw [h1] at hd; cases hd
 · obtain ⟨e',he',hb,rfl⟩:=q9.1 he
   exact h3 e' he' hb
end
end Go.Z
namespace Go.Z
section
variable {P:Program} {os:Array Oper} {X:Ctx} {β β' β0:Bt} {h h' h0:H} {w w':World} {n fu:Nat} {a:Act} {f:F} {π r p:List Nat} {l:Array Bool} {pl pl':List Pd} {id id':Nat->Nat} {al al':List Nat} {i k:Nat} {o:Oper} {E:Ev}
theorem pQ {K:F->H->List Pd->R} (hk:(tQ P n os i).run E f h pl K=true):∃ o,os[i]? = some o/\gM n o.dst=true/\((tH os o f/\K (pf o.dst (.k .u) f) h pl=true)\/(k9 os o f/\(xV o.pos i (cL o) o.dst (aZ P o.op)).run E f h pl K=true)):=by
 unfold tQ at hk
 cases ho:os[i]? with
 | none=>rw [ho] at hk; cases hk
 | some o=>
  rw [ho] at hk
  dsimp only at hk
  cases hd:gM n o.dst with
  | false=>rw [hd] at hk; cases hk
  | true=>
   rw [hd] at hk
   simp only [cond_true] at hk
   refine ⟨o,rfl,hd,?_⟩
   split at hk
   · rename_i hg
     exact .inr ⟨.inl hg,hk⟩
   · rename_i t want hg
     have hk:(match rd f (.tmp t) with
      | .b b=>Bool.rec (put o.dst (.k .u) f fun f=>K f h pl) ((xV o.pos i (cL o) o.dst (aZ P o.op)).run E f h pl K) (fB want b)
      | .k .u=>put o.dst (.k .u) f fun f=>K f h pl
      | _=>bad "guard")=true:=hk
     split at hk
     · rename_i b hb
       rw [bD,dX,fR] at hk
       split at hk
       · rename_i hw; exact .inr ⟨.inr ⟨t,want,hg,b,hb,hw⟩,hk⟩
       · rename_i hw; exact .inl ⟨⟨t,want,hg,.inl ⟨b,hb,by simpa using hw⟩⟩,hk⟩
     · rename_i hb
       rw [fR] at hk
       exact .inl ⟨⟨t,want,hg,.inr hb⟩,hk⟩
     · cases hk
   · cases hk
theorem Ok.prd_sub (ok:Ok P os π) (e:π=p ++ r) {j:Nat} (hj:j ∈ p) {oj:Oper} (hoj:os[j]? = some oj):∀ x ∈ cL oj,x ∈ p:=by
 obtain ⟨p1,p2,e1⟩:=List.append_of_mem hj
 obtain ⟨o,c⟩:=ok.ck p1 j (p2 ++ r) (by rw [e,e1]; simp)
 have:=c.ho; rw [hoj] at this; cases this
 exact fun x hx=>by rw [e1]; simp [c.wt x hx]
theorem Inv.add (ok:Ok P os π) (inv:Inv P os X n β0 h0 π fu (i :: r) p l f h pl id al β a w) (ho:os[i]? = some o) (hd:gM n o.dst=true) (hM:isM P os i=false) {v:V} (hR:Rel X β h' w) (hex:Ex β0 h0 β h')
 (hpl:∀ j g v,Pd.mk j g v ∈ pl->Pd.mk j g v ∈ pl'/\(g h=some v->g h'=some v)) (hal:∀ j ∈ al,j ∈ al'/\id' j=id j/\hG h' (id j)=hG h (id j))
 (alf:∀ j ∈ al',j ∈ p ++ [i]/\hN h0<=id' j/\id' j < hN h'/\β (id' j)=none) (ali:∀ j ∈ al',∀ j' ∈ al',id' j=id' j'->j=j') (hv:Val P os h' pl' (pf o.dst v f) id' al' i o f) :
 Inv P os X n β0 h0 π fu r (p ++ [i]) l (pf o.dst v f) h' pl' id' al' β a w:=by
 obtain ⟨o',c⟩:=ok.ck p i r inv.ord
 have:=c.ho; rw [ho] at this; cases this
 have hni:¬ Dn l i:=fun hd=>c.new (inv.sub i hd)
 have hsame:∀ t,t < 256->(∃ j ∈ p,eO os j=some t)->slot (pf o.dst v f) t=slot f t:=fun t ht ⟨j,hj,hjt⟩=>fG hd inv.n256 (c.ds j hj t hjt) ht
 refine ⟨by rw [inv.ord]; simp,inv.size,fun j hj=>List.mem_append_left _ (inv.sub j hj),fun j hj hm=>?_,inv.fuel,hR,hex,inv.asz,inv.n256,inv.dfr,fun t ht hno=>?_,alf,ali,fun j hj hnd=>?_⟩
 · rcases List.mem_append.1 hj with hj | hj
   · exact inv.ms j hj hm
   · rw [List.mem_singleton.1 hj,hM] at hm; cases hm
 · have h1:o.dst ≠ some t:=by rw [<-dst_of ho]; exact hno i (by simp) hni
   rw [fG hd inv.n256 h1 ht]
   exact inv.fr t ht fun j hj=>hno j (List.mem_append_left _ hj)
 · rcases List.mem_append.1 hj with hj | hj
   · obtain ⟨oj,fj,h1,h2,h3,h4,h5⟩:=inv.pend j hj hnd
     refine ⟨oj,fj,h1,h2,fun t ht h256 k hk hkn hkp hkt=>?_,fun t ht h256 hno=>h4 t ht h256 fun k hk=>hno k (List.mem_append_left _ hk),?_⟩
     · have hkp':k ∈ p:=ok.prd_sub inv.ord hj h1 k hkp
       rw [hsame t h256 ⟨k,hkp',hkt⟩]
       exact h3 t ht h256 k hkp' hkn hkp hkt
     · exact (h5.heap (hpl j) (hal j)).dst_of fun t h1' h256=>hsame t h256 ⟨j,hj,by rw [dst_of h1]; exact h1'⟩
   · rw [List.mem_singleton.1 hj]
     refine ⟨o,f,ho,hd,fun t ht h256 k hk hkn hkp hkt=>(hsame t h256 ⟨k,c.wt k hkp,hkt⟩).symm,fun t ht h256 hno=>inv.fr t h256 fun k hk hkn hkt=>hno k (List.mem_append_left _ hk) hkn (c.cf1 k hk t hkt ht) hkt,hv⟩
theorem gW (ho:os[i]? = some o):isM P os i=(aZ P o.op).isM:=by unfold isM; rw [ho]
theorem F2 (ok:Ok P os π) (inv:Inv P os X n β0 h0 π fu (i :: r) p l f h pl id al β a w) (hM:isM P os i=false) {K:F->H->List Pd->R} (hk:(d9 P n os (i :: r)).run E f h pl K=true) :
 ∃ f' h' pl' id' al',Inv P os X n β0 h0 π fu r (p ++ [i]) l f' h' pl' id' al' β a w/\(d9 P n os r).run E f' h' pl' K=true:=by
 have hk:(tQ P n os i).run E f h pl (fun f h l=>(d9 P n os r).run E f h l K)=true:=hk
 obtain ⟨o,ho,hd,hc⟩:=pQ hk
 obtain ⟨o',c⟩:=ok.ck p i r inv.ord
 have:=c.ho; rw [ho] at this; cases this
 have alf0:∀ j ∈ al,j ∈ p ++ [i]/\hN h0<=id j/\id j < hN h/\β (id j)=none:=fun j hj=>⟨List.mem_append_left _ (inv.alf j hj).1,(inv.alf j hj).2⟩
 have eqd:∀ v,∀ t,o.dst=some t->t < 256->slot (pf o.dst v f) t=v:=fun v t h1 h2=>l7 h1 h2
 rcases hc with ⟨hg,hk⟩ | ⟨hg,hk⟩
 · exact ⟨_,_,_,_,_,inv.add ok ho hd hM inv.rel inv.ex (fun j g v hm=>⟨hm,fun x=>x⟩) (fun j hj=>⟨hj,rfl,rfl⟩) alf0 inv.ali (.skip hg (eqd _)),hk⟩
 · rw [gW ho] at hM
   cases ht:aZ P o.op with
   | m g=>rw [ht] at hM; cases hM
   | bad=>rw [ht] at hk; cases hk
   | p g=>
    rw [ht] at hk
    have hk:Option.rec (motive:=fun _=>R) (bad o.pos) (fun v=>put o.dst v f fun f=>(d9 P n os r).run E f h pl K) (g (ρf f))=true:=hk
    cases hg':g (ρf f) with
    | none=>rw [hg'] at hk; cases hk
    | some v=>
     rw [hg'] at hk
     have hk:put o.dst v f (fun f=>(d9 P n os r).run E f h pl K)=true:=hk
     rw [fR] at hk
     exact ⟨_,_,_,_,_,inv.add ok ho hd (by rw [gW ho,ht]; rfl) inv.rel inv.ex (fun j g v hm=>⟨hm,fun x=>x⟩) (fun j hj=>⟨hj,rfl,rfl⟩) alf0 inv.ali (.p g v hg ht hg' (eqd v)),hk⟩
   | q g=>
    rw [ht] at hk
    have hk:Option.rec (motive:=fun _=>R) (bad o.pos) (fun v=>put o.dst v f fun f'=>(d9 P n os r).run E f' h (.mk i (fun h=>g (ρf f) h) v :: pl) K) (g (ρf f) h)=true:=hk
    cases hg':g (ρf f) h with
    | none=>rw [hg'] at hk; cases hk
    | some v=>
     rw [hg'] at hk
     have hk:put o.dst v f (fun f'=>(d9 P n os r).run E f' h (.mk i (fun h=>g (ρf f) h) v :: pl) K)=true:=hk
     rw [fR] at hk
     exact ⟨_,_,_,_,_,inv.add ok ho hd (by rw [gW ho,ht]; rfl) inv.rel inv.ex (fun j g v hm=>⟨List.mem_cons_of_mem _ hm,fun x=>x⟩) (fun j hj=>⟨hj,rfl,rfl⟩) alf0 inv.ali (.q g v hg ht (by simp) hg' (eqd v)),hk⟩
   | al g=>
    rw [ht] at hk
    have hk:Al.rec (motive:=fun _=>R) (bad o.pos) (fun b rf=>push h b fun n' h=>put o.dst (rf.v n') f fun f=>Bool.rec (bad "re-check") ((d9 P n os r).run E f h pl K) (qL h pl)) (fun v=>put o.dst v f fun f=>(d9 P n os r).run E f h pl K) (g (ρf f))=true:=hk
    cases hg':g (ρf f) with
    | no=>rw [hg'] at hk; cases hk
    | val v=>
     rw [hg'] at hk
     have hk:put o.dst v f (fun f=>(d9 P n os r).run E f h pl K)=true:=hk
     rw [fR] at hk
     exact ⟨_,_,_,_,_,inv.add ok ho hd (by rw [gW ho,ht]; rfl) inv.rel inv.ex (fun j g v hm=>⟨hm,fun x=>x⟩) (fun j hj=>⟨hj,rfl,rfl⟩) alf0 inv.ali (.av g v hg ht hg' (eqd v)),hk⟩
    | mk b rf=>
     rw [hg'] at hk
     have hk:push h b (fun n' h=>put o.dst (rf.v n') f fun f=>Bool.rec (bad "re-check") ((d9 P n os r).run E f h pl K) (qL h pl))=true:=hk
     rw [dG,fR] at hk
     obtain ⟨hrc,hk⟩:=b9 hk
     have hni:i ∉ al:=fun hi=>c.new (inv.alf i hi).1
     have hne:∀ j ∈ al,(if j=i then hN h else id j)=id j:=fun j hj=>if_neg (by rintro rfl; exact hni hj)
     have hex:Ex β0 h0 β (hP h b):=inv.ex.trans (Ex.pushed inv.rel b)
     have hle:=inv.ex.le
     refine ⟨_,_,_,fun j=>if j=i then hN h else id j,i :: al,inv.add ok ho hd (by rw [gW ho,ht]; rfl) (inv.rel.pushed b) hex (fun j g v hm=>⟨hm,fun _=>lN hrc j g v hm⟩) (fun j hj=>⟨List.mem_cons_of_mem _ hj,hne j hj,cB _ _ (inv.alf j hj).2.2.1⟩) (fun j hj=>?_) (fun j hj j' hj' e=>?_) ?_,hk⟩
     · rcases List.mem_cons.1 hj with rfl | hj
       · simp only [if_true]
         exact ⟨by simp,hle,by simp,inv.rel.none⟩
       · simp only [hne j hj]
         obtain ⟨q1,q2,q3,q4⟩:=inv.alf j hj
         exact ⟨List.mem_append_left _ q1,q2,by rw [wD]; omega,q4⟩
     · rcases List.mem_cons.1 hj with e1 | hja<;>rcases List.mem_cons.1 hj' with e2 | hja'
       · rw [e1,e2]
       · simp only [e1,if_true,hne j' hja'] at e
         have:=(inv.alf j' hja').2.2.1; omega
       · simp only [e2,if_true,hne j hja] at e
         have:=(inv.alf j hja).2.2.1; omega
       · simp only [hne j hja,hne j' hja'] at e
         exact inv.ali j hja j' hja' e
     · refine .al g b rf hg ht hg' (by simp) (fun b' hb'=>?_) fun t h1 h2=>?_
       · simp only [if_true,eJ] at hb'; exact (Option.some.inj hb').symm
       · simp only [if_true]
         exact eqd _ t h1 h2
theorem Inv.exec (ok:Ok P os π) (inv:Inv P os X n β0 h0 π (fu + 1) r p l f h pl id al β a w) (hk:k ∈ p) (hkn:¬ Dn l k) (ho:os[k]? = some o) (hd:gM n o.dst=true) (hw:∀ e ∈ cL o,Dn l e) {u:Value} (hR:Rel X β' h w') (hex:Ex β0 h0 β' h) (hsub:Sub β β')
 (hβ:∀ j ∈ al,j ≠ k->β' (id j)=none) (hv:∀ t,o.dst=some t->t < 256->VR β' (slot f t) u):Inv P os X n β0 h0 π fu r p (l.setIfInBounds k true) f h pl id (al.filter (· ≠ k)) β' (a.put o.dst u) w':=by
 have hlt:k < os.size:=(Array.getElem?_eq_some_iff.1 ho).1
 have hmal:∀ j,j ∈ al.filter (· ≠ k) ↔ j ∈ al/\j ≠ k:=fun j=>by simp
 have hpn:∀ j,¬ Dn (l.setIfInBounds k true) j->¬ Dn l j/\j ≠ k:=fun j hj=>⟨fun h=>hj (bF h),by rintro rfl; exact hj (cT (by rw [inv.size]; exact hlt))⟩
 refine ⟨inv.ord,by rw [Array.size_setIfInBounds]; exact inv.size,fun j hj=>?_,fun j hj hm=>bF (inv.ms j hj hm),?_,hR,hex,put_size.trans inv.asz,inv.n256,put_defers.trans inv.dfr,fun t ht hno=>?_,fun j hj=>?_,fun j hj j' hj'=>inv.ali j ((hmal j).1 hj).1 j' ((hmal j').1 hj').1,fun j hj hnd=>?_⟩
 · rcases aU hj with hj | rfl
   · exact inv.sub j hj
   · exact hk
 · have:=fO (n:=os.size) hlt inv.size hkn; have:=inv.fuel; omega
 · by_cases hdt:o.dst=some t
   · rw [iN inv.asz hd hdt]
     exact hv t hdt ht
   · rw [fJ hdt]
     refine (inv.fr t ht fun j hj hjn=>?_).mono hsub
     by_cases hjk:j=k
     · subst hjk; rw [dst_of ho]; exact hdt
     · exact hno j hj fun h=>by
        rcases aU h with h | h
        · exact hjn h
        · exact hjk h
 · obtain ⟨h1,h2⟩:=(hmal j).1 hj
   obtain ⟨q1,q2,q3,q4⟩:=inv.alf j h1
   exact ⟨q1,q2,q3,hβ j h1 h2⟩
 · obtain ⟨hjn,hjk⟩:=hpn j hnd
   obtain ⟨oj,fj,h1,h2,h3,h4,h5⟩:=inv.pend j hj hjn
   refine ⟨oj,fj,h1,h2,fun t ht h256 i hi hin=>h3 t ht h256 i hi (hpn i hin).1,fun t ht h256 hno=>?_,h5.heap (fun g v hm=>⟨hm,fun x=>x⟩) (fun hja=>⟨(hmal j).2 ⟨hja,hjk⟩,rfl,rfl⟩)⟩
   by_cases hdt:o.dst=some t
   · rw [iN inv.asz hd hdt]
     rcases ok.conf inv.ord hk hj (fun e=>hjk e.symm) ho h1 (by rw [dst_of ho]; exact hdt) ht with hc | hc
     · rw [h3 t ht h256 k hk hkn hc (by rw [dst_of ho]; exact hdt)]
       exact hv t hdt h256
     · exact absurd (hw j hc) hjn
   · rw [fJ hdt]
     refine (h4 t ht h256 fun i hi hin hip=>?_).mono hsub
     by_cases hik:i=k
     · subst hik; rw [dst_of ho]; exact hdt
     · exact hno i hi (fun h=>by
        rcases aU h with h | h
        · exact hin h
        · exact hik h) hip
theorem xD (ok:Ok P os π) (inv:Inv P os X n β0 h0 π (fu + 1) r p l f h pl id al β a w) (hk:k ∈ p) (hr:k ∈ Region.ready .any os l) {Q':Exit->Act->World->Prop} :
 wpOp P os Q' k (fun a' w'=>∃ al' β',Inv P os X n β0 h0 π fu r p (l.setIfInBounds k true) f h pl id al' β' a' w') a w:=by
 obtain ⟨hkn,o,ho,hw⟩:=bW hr
 obtain ⟨o',fj,h1,hd,h3,h4,h5⟩:=inv.pend k hk hkn
 rw [ho] at h1; cases h1
 have hv:∀ t ∈ cU os o,t < 256->VR β (slot fj t) (a.tmps.getD t undef):=fun t ht h256=>h4 t ht h256 fun i hi hin hip=>absurd (hw i hip) hin
 have hor:jN β o.op (ρf fj) a.eval:=t7 hv
 have hal0:∀ j ∈ al,j ≠ k->β (id j)=none:=fun j hj _=>(inv.alf j hj).2.2.2
 have hod:=jU (P:=P) o.op
 unfold wpOp
 simp only [ho]
 have yes:k9 os o fj->(o.wp P a w (fun a' w'=>∃ al' β',Inv P os X n β0 h0 π fu r p (l.setIfInBounds k true) f h pl id al' β' a' w') Q')->(if Region.wanted o (yielded os a.tmps)=true then o.wp P a w (fun a' w'=>∃ al' β',Inv P os X n β0 h0 π fu r p (l.setIfInBounds k true) f h pl id al' β' a' w') Q'\/(o.asks P a w/\LetsOut Q') else ∃ al' β',Inv P os X n β0 h0 π fu r p (l.setIfInBounds k true) f h pl id al' β' (a.put o.dst undef) w):=fun hg hh=>by
  rw [if_pos (xS hg hv)]; exact .inl hh
 cases h5 with
 | skip hg hd'=>
  rw [if_neg (by rw [uA hg hv]; simp)]
  exact ⟨_,_,inv.exec ok hk hkn ho hd hw inv.rel inv.ex (Sub.refl _) hal0 fun t h1 h2=>by rw [hd' t h1 h2]; exact .ku⟩
 | p g v hg ht hgv hd'=>
  refine yes hg ?_
  rw [ht] at hod
  obtain ⟨u,q1,q2⟩:=hod (ρf fj) a.eval β v o rfl hor hgv
  unfold Oper.wp
  rw [q2 w,Oper.upon_value]
  exact ⟨_,_,inv.exec ok hk hkn ho hd hw inv.rel inv.ex (Sub.refl _) hal0 fun t h1 h2=>by rw [hd' t h1 h2]; exact q1⟩
 | q g v hg ht hm hgv hd'=>
  refine yes hg ?_
  rw [ht] at hod
  obtain ⟨u,q1,q2⟩:=hod (ρf fj) a.eval X β h w v o rfl hor inv.rel hgv
  unfold Oper.wp
  rw [q2,Oper.upon_value]
  exact ⟨_,_,inv.exec ok hk hkn ho hd hw inv.rel inv.ex (Sub.refl _) hal0 fun t h1 h2=>by rw [hd' t h1 h2]; exact q1⟩
 | av g v hg ht hgv hd'=>
  refine yes hg ?_
  rw [ht] at hod
  obtain ⟨u,w',q1,q2,q3,q4,q5,q6,q7⟩:=(hod (ρf fj) a.eval β o rfl hor).1 v hgv w
  unfold Oper.wp
  rw [q2,Oper.upon_value]
  exact ⟨_,_,inv.exec ok hk hkn ho hd hw (inv.rel.aside q3 q4 q5 q6 q7) inv.ex (Sub.refl _) hal0 fun t h1 h2=>by rw [hd' t h1 h2]; exact q1⟩
 | al g b rf hg ht hgv hj hb hd'=>
  refine yes hg ?_
  rw [ht] at hod
  obtain ⟨a1,a2,a3,a4⟩:=inv.alf k hj
  obtain ⟨u,w',gg,q1,q2,q3⟩:=(hod (ρf fj) a.eval β o rfl hor).2 b rf hgv X h w (id k) inv.rel a4 a3 hb
  unfold Oper.wp
  rw [q1,Oper.upon_value]
  refine ⟨_,_,inv.exec ok hk hkn ho hd hw q2 ⟨fun m hm=>?_,inv.ex.le,fun m hm e=>inv.ex.old m hm e⟩ (fL gg a4) (fun j hja hjk=>?_) fun t h1 h2=>by rw [hd' t h1 h2]; exact q3⟩
  · rw [dS _ _ (by omega)]; exact inv.ex.bt m hm
  · rw [dS _ _ (fun e=>hjk (inv.ali j hja k hj e))]; exact hal0 j hja hjk
end
end Go.Z
namespace Go.Z
section
variable {P:Program} {os:Array Oper} {X:Ctx} {β β' β0:Bt} {h h' h0:H} {w w':World} {n fu:Nat} {a:Act} {f:F} {π r p:List Nat} {l:Array Bool} {pl pl':List Pd} {id id':Nat->Nat} {al al':List Nat} {i k:Nat} {o:Oper} {E:Ev}
theorem Inv.act (ok:Ok P os π) (inv:Inv P os X n β0 h0 π (fu + 1) (i :: r) p l f h pl id al β a w) (ho:os[i]? = some o) (hd:gM n o.dst=true) (hw:∀ e ∈ cL o,Dn l e) {v:V} {u:Value} (hx:Ex β h β' h') (hv:VR β' v u) (hR:Rel X β' h' w')
 (hpl:∀ j g v,j ∉ cL o->Pd.mk j g v ∈ pl->Pd.mk j g v ∈ pl'/\(g h=some v->g h'=some v)):Inv P os X n β0 h0 π fu r (p ++ [i]) (l.setIfInBounds i true) (pf o.dst v f) h' pl' id al β' (a.put o.dst u) w':=by
 obtain ⟨o',c⟩:=ok.ck p i r inv.ord
 have:=c.ho; rw [ho] at this; cases this
 have hni:¬ Dn l i:=fun hd=>c.new (inv.sub i hd)
 have hlt:i < os.size:=(Array.getElem?_eq_some_iff.1 ho).1
 have hself:Dn (l.setIfInBounds i true) i:=cT (by rw [inv.size]; exact hlt)
 have hsub:=hx.sub inv.rel
 have hsame:∀ t,t < 256->(∃ j ∈ p,eO os j=some t)->slot (pf o.dst v f) t=slot f t:=fun t ht ⟨j,hj,hjt⟩=>fG hd inv.n256 (c.ds j hj t hjt) ht
 have hpn:∀ j,¬ Dn (l.setIfInBounds i true) j->¬ Dn l j:=fun j hj h=>hj (bF h)
 have hp1:∀ j ∈ p,¬ Dn l j->¬ Dn (l.setIfInBounds i true) j:=fun j hj hn h=>by
  rcases aU h with h | h
  · exact hn h
  · exact c.new (h ▸ hj)
 refine ⟨by rw [inv.ord]; simp,by rw [Array.size_setIfInBounds]; exact inv.size,fun j hj=>?_,fun j hj hm=>?_,?_,hR,inv.ex.trans hx,put_size.trans inv.asz,inv.n256,put_defers.trans inv.dfr,fun t ht hno=>?_,fun j hj=>?_,inv.ali,fun j hj hnd=>?_⟩
 · rcases aU hj with hj | rfl
   · exact List.mem_append_left _ (inv.sub j hj)
   · simp
 · rcases List.mem_append.1 hj with hj | hj
   · exact bF (inv.ms j hj hm)
   · rw [List.mem_singleton.1 hj]; exact hself
 · have:=fO (n:=os.size) hlt inv.size hni; have:=inv.fuel; omega
 · by_cases hdt:o.dst=some t
   · rw [iN inv.asz hd hdt,l7 hdt ht]; exact hv
   · rw [fJ hdt,fG hd inv.n256 hdt ht]
     exact (inv.fr t ht fun j hj hjn=>hno j (List.mem_append_left _ hj) (hp1 j hj hjn)).mono hsub
 · obtain ⟨q1,q2,q3,q4⟩:=inv.alf j hj
   exact ⟨List.mem_append_left _ q1,q2,Nat.lt_of_lt_of_le q3 hx.le,(hx.bt _ q3).trans q4⟩
 · rcases List.mem_append.1 hj with hj | hj
   · have hjn:=hpn j hnd
     obtain ⟨oj,fj,h1,h2,h3,h4,h5⟩:=inv.pend j hj hjn
     have hjp:j ∉ cL o:=fun hm=>hjn (hw j hm)
     refine ⟨oj,fj,h1,h2,fun t ht h256 k hk hkn hkp hkt=>?_,fun t ht h256 hno=>?_,?_⟩
     · have hkp':k ∈ p:=ok.prd_sub inv.ord hj h1 k hkp
       rw [hsame t h256 ⟨k,hkp',hkt⟩]
       exact h3 t ht h256 k hkp' (hpn k hkn) hkp hkt
     · have hdt:o.dst ≠ some t:=fun hdt=>hjp (c.cf2 j hj t hdt (by rw [uG h1]; exact ht))
       rw [fJ hdt]
       exact (h4 t ht h256 fun k hk hkn=>hno k (List.mem_append_left _ hk) (hp1 k hk hkn)).mono hsub
     · refine (h5.heap (fun g v=>hpl j g v hjp) (fun hja=>⟨hja,rfl,?_⟩)).dst_of fun t h1' h256=>hsame t h256 ⟨j,hj,by rw [dst_of h1]; exact h1'⟩
       obtain ⟨q1,q2,q3,q4⟩:=inv.alf j hja
       exact hx.old _ q3 q4
   · rw [List.mem_singleton.1 hj] at hnd; exact absurd hself hnd
theorem mZ (ok:Ok P os π) (hE:c8 P E) (inv:Inv P os X n β0 h0 π (fu + 1) (i :: r) p l f h pl id al β a w) (hM:isM P os i=true) {K:F->H->List Pd->R} (hk:(d9 P n os (i :: r)).run E f h pl K=true) (hr:i ∈ Region.ready .any os l) {Q':Exit->Act->World->Prop} :
 wpOp P os Q' i (fun a' w'=>∃ f' h' pl' β',Inv P os X n β0 h0 π fu r (p ++ [i]) (l.setIfInBounds i true) f' h' pl' id al β' a' w'/\(d9 P n os r).run E f' h' pl' K=true) a w:=by
 obtain ⟨hni,o,ho,hw⟩:=bW hr
 have hk:(tQ P n os i).run E f h pl (fun f h l=>(d9 P n os r).run E f h l K)=true:=hk
 obtain ⟨o',ho',hd,hc⟩:=pQ hk
 rw [ho] at ho'; cases ho'
 obtain ⟨o',c⟩:=ok.ck p i r inv.ord
 have:=c.ho; rw [ho] at this; cases this
 have hv:∀ t ∈ cU os o,t < 256->VR β (slot f t) (a.tmps.getD t undef):=fun t ht h256=>inv.fr t h256 fun j hj hjn hjt=>hjn (hw j (c.cf1 j hj t hjt ht))
 unfold wpOp
 simp only [ho]
 rcases hc with ⟨hg,hk⟩ | ⟨hg,hk⟩
 · rw [if_neg (by rw [uA hg hv]; simp)]
   exact ⟨_,_,_,_,inv.act ok ho hd hw (.refl _ _) .ku inv.rel (fun j g v _ hm=>⟨hm,fun x=>x⟩),hk⟩
 · rw [if_pos (xS hg hv)]
   refine .inl ?_
   rw [gW ho] at hM
   have hod:=jU (P:=P) o.op
   cases ht:aZ P o.op with
   | m g=>
    rw [ht] at hk hod
    have hk:g (ρf f) E h (fun v h=>put o.dst v f fun f=>Bool.rec (bad "re-check") ((d9 P n os r).run E f h (mP (cL o) pl) K) (qL h (mP (cL o) pl)))=true:=hk
    refine hod E hE (ρf f) a X β h w _ o rfl (t7 hv) inv.rel hk _ _ fun v h' β' u w' q1 q2 q3 q4=>?_
    rw [fR] at q1
    obtain ⟨hrc,q1⟩:=b9 q1
    exact ⟨_,_,_,_,inv.act ok ho hd hw q2 q3 q4 (fun j g v hj hm=>⟨j5 hj hm,fun _=>lN hrc j g v (j5 hj hm)⟩),q1⟩
   | p g=>rw [ht] at hM; cases hM
   | q g=>rw [ht] at hM; cases hM
   | al g=>rw [ht] at hM; cases hM
   | bad=>rw [ht] at hM; cases hM
theorem c7 (l:Array Bool):∀ q:List Nat,(∀ i ∈ q,Dn l i)\/∃ p i r,q=p ++ i :: r/\(∀ k ∈ p,Dn l k)/\¬ Dn l i
 | []=>.inl fun i hi=>by cases hi
 | x :: q=>by
  by_cases hx:Dn l x
  · rcases c7 l q with h | ⟨p,i,r,h1,h2,h3⟩
    · exact .inl fun i hi=>by rcases List.mem_cons.1 hi with rfl | hi; exact hx; exact h i hi
    · exact .inr ⟨x :: p,i,r,by rw [h1]; rfl,fun k hk=>by rcases List.mem_cons.1 hk with rfl | hk; exact hx; exact h2 k hk,h3⟩
  · exact .inr ⟨[],x,q,rfl,fun k hk=>(by cases hk),hx⟩
theorem dQ (ok:Ok P os π) (hs:l.size=os.size) (h:Region.ready .any os l=[]):∀ i ∈ π,Dn l i:=by
 rcases c7 l π with hd | ⟨p,i,r,e,h1,h2⟩
 · exact hd
 · exfalso
   obtain ⟨o,c⟩:=ok.ck p i r e
   have hlt:i < os.size:=(Array.getElem?_eq_some_iff.1 c.ho).1
   have:i ∈ Region.ready .any os l:=mem_ready.2 ⟨by
    unfold Dn at h2
    rw [Array.getD_eq_getD_getElem?,Array.getElem?_eq_getElem (by rw [hs]; exact hlt)] at h2 ⊢
    simpa using h2,o,c.ho,fun e he hb=>h1 _ (c.wt _ (q9.2 ⟨e,he,hb,rfl⟩))⟩
   rw [h] at this; cases this
theorem wU (ok:Ok P os π) (hE:c8 P E) {K:F->H->List Pd->R} {Q':Exit->Act->World->Prop} (hQ:∀ f h pl β a w,K f h pl=true->Ex β0 h0 β h->FRel n β f a->Rel X β h w->Q' .normal a w) :
 ∀ (fu:Nat) (r p:List Nat) (l:Array Bool) (f:F) (h:H) (pl:List Pd) (id:Nat->Nat) (al:List Nat) (β:Bt) (a:Act) (w:World),Inv P os X n β0 h0 π fu r p l f h pl id al β a w->(d9 P n os r).run E f h pl K=true->wpAny P .any os Q' fu l a w:=by
 have fin:∀ (fu:Nat) (r p:List Nat) (l:Array Bool) (f:F) (h:H) (pl:List Pd) (id:Nat->Nat) (al:List Nat) (β:Bt) (a:Act) (w:World),Inv P os X n β0 h0 π fu r p l f h pl id al β a w->(d9 P n os r).run E f h pl K=true->(∀ i ∈ π,Dn l i)->Q' .normal a w:=by
  intro fu r p l f h pl id al β a w inv hk hall
  cases r with
  | cons i r=>
   obtain ⟨o,c⟩:=ok.ck p i r inv.ord
   exact absurd (inv.sub i (hall i (by rw [inv.ord]; simp))) c.new
  | nil=>
   have hp:π=p:=by have:=inv.ord; simpa using this
   exact hQ f h pl β a w hk inv.ex ⟨inv.asz,inv.n256,fun t ht=>inv.fr t ht fun i hi hin=>absurd (hall i (by rw [hp]; exact hi)) hin,inv.dfr⟩ inv.rel
 intro fu
 induction fu with
 | zero=>
  intro r p l f h pl id al β a w inv hk
  have hlt:∀ i ∈ π,i < os.size:=fun i hi=>by
   obtain ⟨q,s,e⟩:=List.append_of_mem hi
   obtain ⟨o,c⟩:=ok.ck q i s e
   exact (Array.getElem?_eq_some_iff.1 c.ho).1
  have hd:∀ i ∈ π,Dn l i:=fun i hi=>kX (Nat.le_zero.1 inv.fuel) i (hlt i hi)
  refine ⟨?_,fin _ _ _ _ _ _ _ _ _ _ _ _ inv hk hd⟩
  cases hr:Region.ready .any os l with
  | nil=>rfl
  | cons k ks=>
   obtain ⟨hu,o,ho,_⟩:=bW (os:=os) (l:=l) (k:=k) (by rw [hr]; simp)
   exact absurd (hd k (ok.all k (Array.getElem?_eq_some_iff.1 ho).1)) hu
 | succ fu ih=>
  intro r
  induction r with
  | nil=>
   intro p l f h pl id al β a w inv hk
   refine ⟨fun hr=>fin _ _ _ _ _ _ _ _ _ _ _ _ inv hk (dQ ok inv.size hr),fun k hkr=>?_⟩
   obtain ⟨hu,o,ho,_⟩:=bW hkr
   have hkp:k ∈ p:=by
    have:=ok.all k (Array.getElem?_eq_some_iff.1 ho).1
    rw [inv.ord] at this; simpa using this
   exact wpOp_mono (fun a' w' ⟨al',β',h'⟩=>ih _ _ _ _ _ _ _ _ _ _ _ h' hk) (xD ok inv hkp hkr)
  | cons i r ihr=>
   intro p l f h pl id al β a w inv hk
   cases hM:isM P os i with
   | false=>
    obtain ⟨f',h',pl',id',al',inv',hk'⟩:=F2 ok inv hM hk
    exact ihr _ _ _ _ _ _ _ _ _ _ inv' hk'
   | true=>
    obtain ⟨oi,c⟩:=ok.ck p i r inv.ord
    refine ⟨fun hr=>fin _ _ _ _ _ _ _ _ _ _ _ _ inv hk (dQ ok inv.size hr),fun k hkr=>?_⟩
    obtain ⟨hu,o,ho,hw⟩:=bW hkr
    have hkπ:=ok.all k (Array.getElem?_eq_some_iff.1 ho).1
    rw [inv.ord] at hkπ
    rcases List.mem_append.1 hkπ with hkp | hkr'
    · exact wpOp_mono (fun a' w' ⟨al',β',h'⟩=>ih _ _ _ _ _ _ _ _ _ _ _ h' hk) (xD ok inv hkp hkr)
    · rcases List.mem_cons.1 hkr' with rfl | hk2
      · exact wpOp_mono (fun a' w' ⟨f',h',pl',β',inv',hk'⟩=>ih _ _ _ _ _ _ _ _ _ _ _ inv' hk') (mZ ok hE inv hM hk hkr)
      · exfalso
        obtain ⟨q1,q2,e⟩:=List.append_of_mem hk2
        have eπ:π=(p ++ i :: q1) ++ k :: q2:=by rw [inv.ord,e]; simp
        obtain ⟨ok',ck⟩:=ok.ck _ k q2 eπ
        have:=ck.ho; rw [ho] at this; cases this
        obtain ⟨x,hx1,hx2⟩:=ck.k3 p i q1 rfl hM
        have hxp:=inv.sub x (hw x hx1)
        rcases List.mem_cons.1 hx2 with rfl | hx2
        · exact c.new hxp
        · obtain ⟨s1,s2,e2⟩:=List.append_of_mem hx2
          obtain ⟨ox,cx⟩:=ok.ck (p ++ i :: s1) x (s2 ++ k :: q2) (by rw [eπ,e2]; simp)
          exact cx.new (by simp [hxp])
theorem s5 (hE:c8 P E) {draw:Bool} {rid:Nat} {k:F->H->R} (hk:(wJ P n os draw).run E f h k=true) (hf:FRel n β f a) (hR:Rel X β h w) {Q:Exit->Act->World->Prop}
 (hQ:∀ f' h' β' a' w',k f' h'=true->Ex β h β' h'->FRel n β' f' a'->Rel X β' h' w'->Q .normal a' w'):(Code.region rid os draw).wp P Q a w:=by
 unfold wJ at hk
 cases draw with
 | false=>
  simp only [cond_false] at hk
  exact wp_region_list (nY hE _ _ _ _ _ _ _ hk hf hR hQ)
 | true=>
  simp only [cond_true] at hk
  cases hB:i5 P os (c9 P os os.size []) with
  | false=>rw [hB] at hk; cases hk
  | true=>
   rw [hB] at hk
   simp only [cond_true] at hk
   have hk:(d9 P n os (c9 P os os.size [])).run E f h [] (fun f h _=>k f h)=true:=hk
   unfold i5 at hB
   rw [Bool.and_eq_true,Bool.and_eq_true] at hB
   obtain ⟨⟨hmix,hl⟩,hC⟩:=hB
   have ok:=Ok.of hC (b8 hl)
   refine wp_region_any hmix (wU (β0:=β) (h0:=h) ok hE (fun f' h' pl β' a' w' q1 q2 q3 q4=>hQ f' h' β' a' w' q1 q2 q3 q4) os.size (c9 P os os.size []) [] _ f h [] (fun _=>0) [] β a _ ?_ hk)
   have hnd:∀ i,¬ Dn (Array.replicate os.size false) i:=fun i h=>by
    unfold Dn at h
    rw [Array.getD_eq_getD_getElem?,Array.getElem?_replicate] at h
    split at h<;>simp at h
   refine ⟨rfl,by simp,fun i hi=>absurd hi (hnd i),fun i hi=>(by cases hi),?_,hR.drew,.refl _ _,hf.size,hf.le,hf.defers,fun t ht _=>hf.slot t ht,fun j hj=>(by cases hj),fun j hj=>(by cases hj),fun j hj=>(by cases hj)⟩
   unfold cnt
   exact Nat.le_trans (List.length_filter_le _ _) (by rw [List.length_range]; exact Nat.le_refl _)
end
end Go.Z
namespace Go.Z
section
variable {P:Program} {X:Ctx} {β β':Bt} {h h':H} {w w':World} {n:Nat} {a:Act} {f:F} {E:Ev}
structure Post (X:Ctx) (n:Nat) (β:Bt) (h:H) (x:Nat->F->H->R) (r k:F->H->R) (Q:Exit->Act->World->Prop):Prop where
 nm:∀ f' h' β' a' w',k f' h'=true->Ex β h β' h'->FRel n β' f' a'->Rel X β' h' w'->Q .normal a' w'
 rt:∀ f' h' β' a' w',r f' h'=true->Ex β h β' h'->FRel n β' f' a'->Rel X β' h' w'->Q .ret a' w'
 xt:∀ id f' h' β' a' w',x id f' h'=true->Ex β h β' h'->FRel n β' f' a'->Rel X β' h' w'->Q (.exit id) a' w'
theorem l8 {fl:Nat} (hE:c8 P E):∀ (c:Code) (f:F) (h:H) (β:Bt) (a:Act) (w:World) (x:Nat->F->H->R) (r k:F->H->R),(gE fl P n c).run E f h x r k=true->FRel n β f a->Rel X β h w->∀ Q:Exit->Act->World->Prop,Post X n β h x r k Q->c.wp P Q a w:=by
 intro c
 induction c with
 | skip=>intro f h β a w x r k hk hf hR Q hQ; exact wp_skip (hQ.nm _ _ _ _ _ hk (.refl _ _) hf hR)
 | region id os draw=>
  intro f h β a w x r k hk hf hR Q hQ
  exact s5 hE (k:=k) hk hf hR hQ.nm
 | seq c d ihc ihd=>
  intro f h β a w x r k hk hf hR Q hQ
  refine wp_seq (ihc f h β a w x r (fun f h=>(gE fl P n d).run E f h x r k) hk hf hR _ ⟨fun f' h' β' a' w' q1 q2 q3 q4=>?_,fun f' h' β' a' w' q1 q2 q3 q4=>hQ.rt _ _ _ _ _ q1 q2 q3 q4,fun id f' h' β' a' w' q1 q2 q3 q4=>hQ.xt _ _ _ _ _ _ q1 q2 q3 q4⟩)
  exact ihd f' h' β' a' w' x r k q1 q3 q4 Q ⟨fun f2 h2 β2 a2 w2 r1 r2 r3 r4=>hQ.nm _ _ _ _ _ r1 (q2.trans r2) r3 r4,fun f2 h2 β2 a2 w2 r1 r2 r3 r4=>hQ.rt _ _ _ _ _ r1 (q2.trans r2) r3 r4,fun id f2 h2 β2 a2 w2 r1 r2 r3 r4=>hQ.xt _ _ _ _ _ _ r1 (q2.trans r2) r3 r4⟩
 | cond o c d ihc ihd=>
  intro f h β a w x r k hk hf hR Q hQ
  have hk:rB (rd f o) (fun t=>Bool.rec ((gE fl P n d).run E f h x r k) ((gE fl P n c).run E f h x r k) t)=true:=hk
  obtain ⟨t,ht,hk⟩:=rJ hk
  have hv:=gT hf o
  rw [ht] at hv
  generalize hu:a.eval o=u at hv
  cases hv
  refine wp_cond hu ?_
  cases t with
  | true=>exact ihc f h β a w x r k hk hf hR Q hQ
  | false=>exact ihd f h β a w x r k hk hf hR Q hQ
 | block id c ihc=>
  intro f h β a w x r k hk hf hR Q hQ
  refine wp_block (ihc f h β a w (fun i f h=>Bool.rec (motive:=fun _=>R) (x i f h) (k f h) (Nat.beq i id)) r k hk hf hR _ ⟨fun f' h' β' a' w' q1 q2 q3 q4=>hQ.nm _ _ _ _ _ q1 q2 q3 q4,fun f' h' β' a' w' q1 q2 q3 q4=>hQ.rt _ _ _ _ _ q1 q2 q3 q4,fun i f' h' β' a' w' q1 q2 q3 q4=>?_⟩)
  rw [bD] at q1
  simp only [Exit.inBlock]
  split at q1
  · rename_i hi; rw [if_pos (b8 hi)]; exact hQ.nm _ _ _ _ _ q1 q2 q3 q4
  · rename_i hi; rw [if_neg (fun e=>hi (by rw [e]; exact Nat.beq_refl _))]; exact hQ.xt _ _ _ _ _ _ q1 q2 q3 q4
 | loop c ihc=>
  intro f h β a w x r k hk hf hR Q hQ
  have hk:fF (fun f h k=>(gE fl P n c).run E f h x r k) fl f h=true:=hk
  obtain ⟨m,hk⟩:∃ m,fF (fun f h k=>(gE fl P n c).run E f h x r k) m f h=true:=⟨fl,hk⟩
  refine wp_loop_ghost (fun m a w=>∃ f' h' β',fF (fun f h k=>(gE fl P n c).run E f h x r k) m f' h'=true/\Ex β h β' h'/\FRel n β' f' a/\Rel X β' h' w) m ⟨f,h,β,hk,.refl _ _,hf,hR⟩ ?_
  rintro m a w ⟨f1,h1,β1,hk1,q2,q3,q4⟩
  cases m with
  | zero=>cases hk1
  | succ m=>
   have hk1:(gE fl P n c).run E f1 h1 x r (fF (fun f h k=>(gE fl P n c).run E f h x r k) m)=true:=hk1
   exact ihc f1 h1 β1 a w x r _ hk1 q3 q4 _ ⟨fun f2 h2 β2 a2 w2 r1 r2 r3 r4=>⟨m,Nat.lt_succ_self m,f2,h2,β2,r1,q2.trans r2,r3,r4⟩,fun f2 h2 β2 a2 w2 r1 r2 r3 r4=>hQ.rt _ _ _ _ _ r1 (q2.trans r2) r3 r4,fun id f2 h2 β2 a2 w2 r1 r2 r3 r4=>hQ.xt _ _ _ _ _ _ r1 (q2.trans r2) r3 r4⟩
 | rangeFunc o ps c d _ _=>intro f h β a w x r k hk; cases hk
 | exit id=>intro f h β a w x r k hk hf hR Q hQ; exact wp_exit (hQ.xt _ _ _ _ _ _ hk (.refl _ _) hf hR)
 | scope c ihc=>
  intro f h β a w x r k hk hf hR Q hQ
  exact wp_scope_straight (ihc f h β a w x r k hk hf hR _ ⟨fun f' h' β' a' w' q1 q2 q3 q4=>hQ.nm _ _ _ _ _ q1 q2 q3 q4,fun f' h' β' a' w' q1 q2 q3 q4=>hQ.rt _ _ _ _ _ q1 q2 q3 q4,fun id f' h' β' a' w' q1 q2 q3 q4=>hQ.xt _ _ _ _ _ _ q1 q2 q3 q4⟩)
 | label l=>intro f h β a w x r k hk hf hR Q hQ; exact wp_label (hQ.nm _ _ _ _ _ hk (.refl _ _) hf hR)
 | goto l=>intro f h β a w x r k hk; cases hk
 | ret=>intro f h β a w x r k hk hf hR Q hQ; exact wp_ret (hQ.rt _ _ _ _ _ hk (.refl _ _) hf hR)
 | refuse s=>intro f h β a w x r k hk; cases hk
def sF (tmps:Array Value):ResultVar->Sem Value
 | .tmp t=>pure (tmps.getD t undef)
 | .cell c t=>do loadVar t (<-asAddr (tmps.getD c undef))
theorem kT (fn:Func) (tmps:Array Value):results fn tmps=(do let vs <-fn.results.mapM (sF tmps); pure (if h:vs.size=1 then vs[0] else .tuple vs)):=rfl
theorem iA (hf:FRel n β f a) (hR:Rel X β h w):∀ (l:List ResultVar) (K:List V->R),jD P l f h K=true->∃ vs us,K vs=true/\(l.mapM (sF a.tmps)).run P w=.ok us w/\AllR β vs us
 | [],K,hk=>⟨[],[],hk,by simp,.nil⟩
 | .tmp t :: l,K,hk=>by
  have hk:jD P l f h (fun l=>K (rd f (.tmp t) :: l))=true:=hk
  obtain ⟨vs,us,q1,q2,q3⟩:=iA hf hR l _ hk
  exact ⟨_,a.tmps.getD t undef :: us,q1,by simp [sF,q2],AllR.cons (gT hf (.tmp t)) q3⟩
 | .cell c t :: l,K,hk=>by
  have hk:(match aJ P t,aF P t with
   | some g,some n=>rO "result" (fH h g n (rd f (.tmp c))) fun v=>jD P l f h fun l=>K (v :: l)
   | _,_=>bad "result")=true:=hk
  split at hk
  case h_2=>cases hk
  rename_i g m hg hm
  obtain ⟨v,hl,hk⟩:=cH hk
  obtain ⟨vs,us,q1,q2,q3⟩:=iA hf hR l _ hk
  have hv:=gT hf (.tmp c)
  obtain ⟨u,r1,r2⟩:=i9 hR hv hg hm hl
  obtain ⟨b,i,j,hp,_⟩:=d2 hl
  rw [hp] at hv
  have hv:VR β (.p b i j) (a.tmps.getD c undef):=hv
  have r2:(Instr.loadAt t (a.tmps.getD c undef)).run P w=.ok u w:=r2
  generalize hu:a.tmps.getD c undef=uu at hv r2
  cases hv with | p _ _ _ gg hgg=>
  rw [kG] at r2
  refine ⟨_,u :: us,q1,?_,AllR.cons r1 q3⟩
  simp [sF,hu,asAddr,r2,q2]
theorem yS {vs:List V} {us:List Value} (h:AllR β vs us):VR β (n3 vs) (if h:us.toArray.size=1 then us.toArray[0] else .tuple us.toArray):=by
 match vs,us,h with
 | [],us,h=>have:=h.inv_nil; subst this; exact .t [] [] rfl (by simp)
 | [y],us,h=>
  obtain ⟨u,m',rfl,hy,hm'⟩:=h.inv_cons
  have:=hm'.inv_nil
  subst this
  exact hy
 | y :: z :: r,us,h=>
  have:¬ us.toArray.size=1:=by have:=h.1; simp at this ⊢; omega
  rw [dif_neg this]
  exact .t _ us h.1 h.2
theorem wX (l:List V):∀ t,t < 256->slot (o0 l) t=if t < 16 then aH l t else U:=by
 intro t ht
 unfold slot o0
 by_cases h:t < 16
 · rw [if_pos h,Nat.div_eq_of_lt h,Nat.mod_eq_of_lt h]
   revert h
   refine fun h=>s4 (p:=fun t=>((N.at (N.mk (N.mk (aH l 0) (aH l 1) (aH l 2) (aH l 3) (aH l 4) (aH l 5) (aH l 6) (aH l 7) (aH l 8) (aH l 9) (aH l 10) (aH l 11) (aH l 12) (aH l 13) (aH l 14) (aH l 15)) NU NU NU NU NU NU NU NU NU NU NU NU NU NU NU) 0).at t)=aH l t) rfl rfl rfl rfl rfl rfl rfl rfl rfl rfl rfl rfl rfl rfl rfl rfl t h
 · rw [if_neg h]
   have h1:0 < t / 16:=Nat.div_pos (by omega) (by decide)
   have h2:t / 16 < 16:=by omega
   have h3:t % 16 < 16:=Nat.mod_lt _ (by decide)
   generalize t / 16=i at h1 h2
   generalize t % 16=j at h3
   revert j
   revert i
   intro i h1 h2
   have hNU:∀ j,j < 16->NU.at j=U:=s4 rfl rfl rfl rfl rfl rfl rfl rfl rfl rfl rfl rfl rfl rfl rfl rfl
   intro j h3
   have:(N.at (N.mk (N.mk (aH l 0) (aH l 1) (aH l 2) (aH l 3) (aH l 4) (aH l 5) (aH l 6) (aH l 7) (aH l 8) (aH l 9) (aH l 10) (aH l 11) (aH l 12) (aH l 13) (aH l 14) (aH l 15)) NU NU NU NU NU NU NU NU NU NU NU NU NU NU NU) i)=NU:=by
    match i,h1,h2 with
    | i + 16,_,h2=>exact absurd h2 (by omega)
    | 1,_,_ | 2,_,_ | 3,_,_ | 4,_,_ | 5,_,_ | 6,_,_ | 7,_,_ | 8,_,_ | 9,_,_ | 10,_,_ | 11,_,_ | 12,_,_ | 13,_,_ | 14,_,_ | 15,_,_=>rfl
   rw [this]
   exact hNU j h3
theorem AT {vs:List V} {us:List Value} (h:AllR β vs us) (h1:vs.length<=16) (h2:vs.length<=n) (h3:n<=256):FRel n β (o0 vs) { tmps:=us.toArray ++ Array.replicate (n - us.toArray.size) undef,defers:=[] }:=by
 have hl:us.length=vs.length:=h.1.symm
 refine ⟨by simp; omega,h3,fun t ht=>?_,rfl⟩
 rw [wX vs t ht,Array.getD_eq_getD_getElem?,Array.getElem?_append]
 by_cases hlt:t < us.length
 · have hlt':t < us.toArray.size:=by simpa using hlt
   rw [if_pos (by omega),if_pos hlt']
   have hv:vs[t]? = some (vs[t]'(by omega)):=List.getElem?_eq_getElem (by omega)
   have:aH vs t=vs[t]'(by omega):=by unfold aH; rw [eC,hv]
   rw [this]
   have hu:us.toArray[t]? = some us[t]:=by simp [hlt]
   rw [hu]
   exact h.2 t _ _ hv (List.getElem?_eq_getElem hlt)
 · have hlt':¬ t < us.toArray.size:=by simpa using hlt
   rw [if_neg hlt']
   have e1:(if t < 16 then aH vs t else U)=U:=by
    split
    · have hv:vs[t]? = none:=List.getElem?_eq_none (by omega)
      unfold aH; rw [eC,hv]
    · rfl
   rw [e1]
   have e2:((Array.replicate (n - us.toArray.size) undef)[t - us.toArray.size]?).getD undef=undef:=by
    rw [Array.getElem?_replicate]; split<;>rfl
   rw [e2]
   exact .ku
theorem uY (hE:c8 P E) {g:FuncId} {vs:List V} {k:V->H->R} (hk:Fd.rec (motive:=fun _=>R) (fun q=>q E vs h k) (xN P g)=true):ent P g/\∀ (X:Ctx) (β:Bt) (us:List Value) (w:World),AllR β vs us->Rel X β h w->
 Calls P g us.toArray w (fun e w'=>∃ u v h' β',e=.returned u/\k v h'=true/\Ex β h β' h'/\VR β' v u/\Rel X β' h' w'):=by
 unfold xN at hk
 cases hfn:P.funcs[g]? with
 | none=>rw [hfn] at hk; cases hk
 | some fn=>
  rw [hfn] at hk
  dsimp only at hk
  cases hb:fn.body with
  | none=>rw [hb] at hk; cases hk
  | some c=>
   rw [hb] at hk
   dsimp only at hk
   cases hc:(fn.name == "runtime.NumGoroutine" || Nat.blt 256 fn.ntmps) with
   | true=>rw [hc] at hk; cases hk
   | false=>
    rw [hc] at hk
    rw [Bool.or_eq_false_iff,bA] at hc
    have h256:=of_decide_eq_false hc.2
    have hk:(Bool.rec (bad "arguments") ((BS P fn.ntmps c).run E (o0 vs) h (fun _ _ _=>bad "exit") (fun f h=>jD P fn.results.toList f h fun l=>k (n3 l) h) (fun f h=>jD P fn.results.toList f h fun l=>k (n3 l) h)) (Nat.ble (len vs) (Nat.min 16 fn.ntmps)):R)=true:=hk
    obtain ⟨hle,hk⟩:=b9 hk
    rw [aS,d8] at hle
    have hle:vs.length<=min 16 fn.ntmps:=of_decide_eq_true hle
    refine ⟨zW hfn hb hc.1,fun X β us w hv hR=>?_⟩
    refine calls_of_wp hfn hb ?_
    have fin:∀ f' h' β' a' w',jD P fn.results.toList f' h' (fun l=>k (n3 l) h')=true->Ex β h β' h'->FRel fn.ntmps β' f' a'->Rel X β' h' w'->a'.defers=[]/\∃ v,(results fn a'.tmps).run P w'=.ok v w'/\∃ u v' h'' β'',Ending.returned v=.returned u/\k v' h''=true/\Ex β h β'' h''/\VR β'' v' u/\Rel X β'' h'' w':=by
     intro f' h' β' a' w' q1 q2 q3 q4
     obtain ⟨vs',us',r1,r2,r3⟩:=iA q3 q4 _ _ q1
     refine ⟨q3.defers,(if h:us'.toArray.size=1 then us'.toArray[0] else .tuple us'.toArray),?_,_,_,_,_,rfl,r1,q2,yS r3,q4⟩
     simp only [kT,Array.mapM_eq_mapM_toList,Sem.run_bind,Sem.run_map,r2,Result.andThen_ok,Sem.run_pure]
    exact l8 hE c _ _ β _ _ _ _ _ hk (AT hv (by omega) (by omega) (by omega)) hR _ ⟨fun f' h' β' a' w' q1 q2 q3 q4=>fin f' h' β' a' w' q1 q2 q3 q4,fun f' h' β' a' w' q1 q2 q3 q4=>fin f' h' β' a' w' q1 q2 q3 q4,fun id f' h' β' a' w' q1=>by cases q1⟩
def xK (P:Program) (J:FuncId->Jn):Prop:=∀ f g,J f=.yes g->∀ vs h k,g vs h k=true->ent P f/\∀ (X:Ctx) (β:Bt) (us:List Value) (w:World),AllR β vs us->Rel X β h w->
 Calls P f us.toArray w (fun e w'=>∃ u v h' β',e=.returned u/\k v h'=true/\Ex β h β' h'/\VR β' v u/\Rel X β' h' w')
theorem pT {J:FuncId->Jn} (hJ:xK P J):∀ n,c8 P (ev P J n):=by
 intro n
 induction n with
 | zero=>intro f vs h k hk; cases hk
 | succ n ih=>
  intro f vs h k hk
  have hk:Jn.rec (motive:=fun _=>R) (Fd.rec (motive:=fun _=>R) (fun g=>g (ev P J n) vs h k) (xN P f)) (fun g=>g vs h k) (J f)=true:=hk
  cases hj:J f with
  | no=>rw [hj] at hk; exact uY ih hk
  | yes g=>rw [hj] at hk; exact hJ f g hj vs h k hk
end
end Go.Z
namespace Go.Z
noncomputable def xR (v:V):R:=rB v fun b=>b
theorem pA {v:V} (h:xR v=true):v=.b true:=by
 obtain ⟨b,h1,h2⟩:=rJ h
 rw [h1,h2]
theorem closed {P:Program} {J:FuncId->Jn} (hJ:xK P J) {n:Nat} {f:FuncId} (hk:ev P J n f [] (.mk 0 .lf) (fun r _=>xR r)=true):ent P f/\∀ w:World,
 Calls P f #[] w (fun e w'=>e=.returned (.bool true)/\(∀ b,b < w.heap.size->w'.heap[b]? = w.heap[b]?)/\w.heap.size<=w'.heap.size/\w'.os=w.os/\w'.tape=w.tape/\w'.output=w.output):=by
 obtain ⟨h1,h2⟩:=pT hJ n f [] _ _ hk
 refine ⟨h1,fun w=>?_⟩
 have hR:Rel ⟨w,[]⟩ (fun _=>none) (.mk 0 .lf) w:=⟨fun n g blk h=>(by cases h),fun n m g g' h=>(by cases h),fun n g h=>(by cases h),fun n g h=>(by cases h),fun b _ _=>rfl,Nat.le_refl _,rfl,rfl,rfl⟩
 refine (h2 ⟨w,[]⟩ (fun _=>none) [] w .nil hR).mono ?_
 rintro e w' ⟨u,v,h',β',rfl,q1,q2,q3,q4⟩
 rw [pA q1] at q3
 cases q3
 exact ⟨rfl,fun b hb=>q4.keep b hb (by simp),q4.sz,q4.os,q4.tape,q4.output⟩
theorem yR {P:Program} {J:FuncId->Jn} (hJ:xK P J) {n:Nat} {f:FuncId} {vs:List V} (hk:ev P J n f vs (.mk 0 .lf) (fun r _=>xR r)=true) {us:List Value} (hv:AllR (fun _=>none) vs us) (w:World) :
 Calls P f us.toArray w (fun e w'=>e=.returned (.bool true)/\(∀ b,b < w.heap.size->w'.heap[b]? = w.heap[b]?)/\w.heap.size<=w'.heap.size/\w'.os=w.os/\w'.tape=w.tape/\w'.output=w.output):=by
 obtain ⟨h1,h2⟩:=pT hJ n f vs _ _ hk
 have hR:Rel ⟨w,[]⟩ (fun _=>none) (.mk 0 .lf) w:=⟨fun n g blk h=>(by cases h),fun n m g g' h=>(by cases h),fun n g h=>(by cases h),fun n g h=>(by cases h),fun b _ _=>rfl,Nat.le_refl _,rfl,rfl,rfl⟩
 refine (h2 ⟨w,[]⟩ (fun _=>none) us w hv hR).mono ?_
 rintro e w' ⟨u,v,h',β',rfl,q1,q2,q3,q4⟩
 rw [pA q1] at q3
 cases q3
 exact ⟨rfl,fun b hb=>q4.keep b hb (by simp),q4.sz,q4.os,q4.tape,q4.output⟩
end Go.Z
namespace Go.Z
def BP:List V->Bool
 | [.i .i64 _]=>true
 | _=>false
def pL:Rs->Bool
 | []=>true
 | r :: l=>BP r && pL l
noncomputable def tE (fv:FuncId) (xs:List V) (h:H) (k:V->H->R):R:=match xs with
 | [.k .s,.f g [] [.p b i j]]=>bif Nat.beq g fv then rO "apSeq" (fH h false 1 (.p b i j)) fun s=>rO "apSeq" (e7 1 h s) fun ys=>bif pL ys && Nat.ble (Nat.mul (eL ys) 8) 140737488351232 then (match ys with
  | []=>k (.k .s) h
  | ys=>m0 1 ys h k) else bad "apSeq: rows" else bad "apSeq: function"
 | _=>bad "apSeq"
structure AppOK (P:Program) (fa fv:FuncId) (e:TypeId):Prop where
 ent:ent P fa
 ag:aJ P e=some false
 run:∀ (w:World) (Bs o:Nat) (oa:Option Addr) (c:Nat) (zs:List Int),w.cell? ⟨Bs,o,none⟩=some (.slice oa zs.length c)->(∀ ad,oa=some ad->∀ j z,zs[j]? = some z->w.cell? (ad.add j)=some (.int .i64 z))->(oa=none->zs=[])->zs.length * 8<=140737488351232->
  Calls P fa #[.slice none 0 0,.func (.func fv) #[] #[.pointer (some ⟨Bs,o,none⟩)]] w fun e' w'=>∃ v,e'=.returned v/\w'.ownsRow w.heap.size e 1 v zs.length (zs.map fun z=>.int .i64 z)/\(v=.slice none 0 0 ↔ zs=[])/\RowKit.Below w.heap.size w w'
section
variable {P:Program} {X:Ctx} {β:Bt} {h:H} {w:World}
theorem n9:∀ (ys:Rs) (news:List Value),pL ys=true->AllR β ys.flatten news->∃ zs:List Int,news=zs.map (fun z=>Value.int .i64 z)/\zs.length=ys.length
 | [],news,_,hr=>⟨[],by rw [hr.inv_nil]; rfl,rfl⟩
 | r :: l,news,h,hr=>by
  rw [pL,Bool.and_eq_true] at h
  obtain ⟨h1,h2⟩:=h
  unfold BP at h1
  split at h1
  · rename_i n
    obtain ⟨v,news',rfl,hv,hr'⟩:=AllR.inv_cons (c:=V.i .i64 n) (l:=l.flatten) (by simpa using hr)
    obtain ⟨zs,q1,q2⟩:=n9 l news' h2 hr'
    cases hv
    exact ⟨n :: zs,by rw [q1]; rfl,by simp [q2]⟩
  · cases h1
theorem v8 (hr:Rel X β h w) {b i j:Nat} {g:G} (hg:β b=some g) {v:V} (hv:fH h false 1 (.p b i j)=some v):∃ u,VR β v u/\w.cell? ⟨g.b,g.base + i * g.sz + j,none⟩=some u:=by
 obtain ⟨b',i',j',e,hv⟩:=d2 hv
 cases e
 obtain ⟨sz,cnt,es,hb,hv⟩:=m8 hv
 obtain ⟨l,hl,hv⟩:=aW hv
 obtain ⟨us,k1,k2,k3,k4,k5,k6,k7⟩:=(hr.own b g _ hg hb).elem hl
 have hv:dZ l j=some v:=hv
 rw [eC] at hv
 obtain ⟨u,q1,q2⟩:=k1.get hv
 exact ⟨u,q2,k7 j u q1⟩
theorem vT {fa fv:FuncId} {e:TypeId} (hA:AppOK P fa fv e):∀ vs h k,tE fv vs h k=true->ent P fa/\∀ (X:Ctx) (β:Bt) (us:List Value) (w:World),AllR β vs us->Rel X β h w->
 Calls P fa us.toArray w (fun e w'=>∃ u v h' β',e=.returned u/\k v h'=true/\Ex β h β' h'/\VR β' v u/\Rel X β' h' w'):=by
 intro vs h k hk
 refine ⟨hA.ent,fun X β us w hv hR=>?_⟩
 unfold tE at hk
 split at hk
 case h_2=>cases hk
 rename_i g b i j
 cases hg:Nat.beq g fv with
 | false=>rw [hg] at hk; cases hk
 | true=>
  have:=b8 hg
  subst this
  rw [hg] at hk
  simp only [cond_true] at hk
  obtain ⟨s,hs,hk⟩:=cH hk
  obtain ⟨ys,hys,hk⟩:=cH hk
  cases hc:(pL ys && Nat.ble (Nat.mul (eL ys) 8) 140737488351232) with
  | false=>rw [hc] at hk; cases hk
  | true=>
   rw [hc] at hk
   simp only [cond_true] at hk
   rw [Bool.and_eq_true,aS,d4] at hc
   obtain ⟨u1,us1,rfl,hv1,hv'⟩:=hv.inv_cons
   obtain ⟨u2,us2,rfl,hv2,hv''⟩:=hv'.inv_cons
   have:=hv''.inv_nil
   subst this
   cases hv1
   cases hv2 with | f _ _ _ fu cu q1 q2 q3 q4=>
   have:fu=[]:=List.eq_nil_of_length_eq_zero q1.symm
   subst this
   obtain ⟨u3,us3,rfl,hv3,hn3⟩:=AllR.inv_cons (β:=β) (c:=V.p b i j) (l:=[]) ⟨q3,q4⟩
   have:=hn3.inv_nil
   subst this
   cases hv3 with | p _ _ _ gg hgg=>
   obtain ⟨sv,r1,r2⟩:=v8 hR hgg hs
   obtain ⟨news,hrow⟩:=fE hR r1 hys
   obtain ⟨zs,z1,z2⟩:=n9 ys news hc.1 hrow.rel
   obtain ⟨oa,c,rfl,c1,c2⟩:=hrow.val
   have h8:zs.length * 8<=140737488351232:=by rw [z2]; exact of_decide_eq_true hc.2
   refine (hA.run w _ _ oa c zs (by rw [z2]; exact r2) (fun ad had jj z hz=>c1 ad had jj _ (by rw [z1,List.getElem?_map,hz]; rfl)) (fun hn=>by
    have:=c2 hn
    rw [this] at z2
    exact List.eq_nil_of_length_eq_zero z2) h8).mono ?_
   rintro e' w' ⟨v,rfl,hown,hnil,hbl⟩
   have hside:Rel X β h w':=hR.aside (fun b hb=>hbl.block b hb) hbl.size hbl.os hbl.tape hbl.output
   cases hy:ys with
   | nil=>
    rw [hy] at hk z2
    have hz:zs=[]:=List.eq_nil_of_length_eq_zero z2
    exact ⟨v,.k .s,h,β,rfl,hk,.refl _ _,by rw [hnil.2 hz]; exact .ks,hside⟩
   | cons y ys'=>
    rw [hy] at hk
    dsimp only at hk
    unfold m0 at hk
    rw [aL,dG,d4,<-hy] at hk
    have hz0:0 < zs.length:=by rw [z2,hy]; simp
    rcases hown.2 with ⟨_,h0⟩ | ⟨gb,cap,cur,rfl,o1,o2,o3,o4,o5,o6⟩
    · omega
    · have hel:=qN (β:=β) (rest:=cur.toList.drop (zs.length * 1)) hrow.rel hrow.len hrow.one
      have hcur:news ++ cur.toList.drop (zs.length * 1)=cur.toList:=by
       rw [z1,<-o6,List.take_append_drop]
      rw [hcur] at hel
      have hR1:=hR.pushed (.c 1 ys.length (aX ys 0 .lf))
      refine ⟨_,_,_,eV β (hN h) ⟨gb,0,cap,1,ys.length⟩,rfl,hk,⟨fun m hm=>dS _ _ (by omega),by simp,fun m hm _=>cB _ _ hm⟩,?_,?_⟩
      · rw [z2] at o3 ⊢
        exact .sl _ 0 _ _ ⟨gb,0,cap,1,ys.length⟩ _ cap (cF _ _ _) rfl (by simp) (by simp) o3 (fun _=>by simp) rfl
      · refine hR1.fresh hR.none (by simp) o1 (fun blk hblk=>?_) (fun b hb=>hbl.block b hb) hbl.size hbl.os hbl.tape hbl.output
        rw [eJ] at hblk
        cases hblk
        refine On.ofElR (cur:=cur) (T:=e) o2 rfl rfl (by rw [<-z2]; exact o3) (by simpa using o5) ?_
        show ElR _ _ _ _ (List.drop 0 _)
        rw [List.drop_zero]
        exact hel.mono (fL _ hR.none)
noncomputable def z3 (fa fv:FuncId) (f:FuncId):Jn:=bif Nat.beq f fa then .yes (tE fv) else .no
theorem zE {fa fv:FuncId} {e:TypeId} (hA:AppOK P fa fv e):xK P (z3 fa fv):=by
 intro f g hf
 unfold z3 at hf
 cases hb:Nat.beq f fa with
 | false=>rw [hb] at hf; cases hf
 | true=>
  rw [hb] at hf
  cases hf
  rw [b8 hb]
  exact vT hA
end
end Go.Z
namespace Go.Proofs
open Go.RowKit Go.Maps Go.Sort Go.Shelf
variable {P:Program} {ρ:Ren}
theorem Tryz.appendSeq_in (L:SlLaysZI.n11 P ρ) (F:Fence) (n:Nat) (h11:F.fn (ρ.f 11)) (hro:F.round=none) (hn:2<=n) (g:Nat) (lb:Array Value) (hFg:F.fn g) (eg:∀ args w,(callFunc g args).run P w=.ok (.enter g args) w)
 (S:List Int->Prop) (N:Nat) (hN:N<=maxLen) (hNb:N * 8<=140737488355328) (w:World)
 (hseq:∀ (l:Nat) (J:List Int->World->Prop) (W:World),(∀ pre W',J pre W'->Below w.heap.size w W')->
   (∀ pre x W1,J pre W1->pre.length < N->YieldAt F (n - 1 - 1) P l #[encZ x] W1 fun e W'=>e=.returned (.bool true)/\J (pre ++ [x]) W'/\KeepsWalks W1 W')->J [] W->
   CallsIn F (n - 1) P g (#[.func (.yield l) #[] #[]] ++ lb) W fun e W'=>(∃ v,e=.returned v)/\∃ xs,S xs/\J xs W') :
 CallsIn F n P (ρ.f 11) #[.slice none 0 0,.func (.func g) #[] lb] w fun e w'=>∃ (v:Value) (ss:List Int),e=.returned v/\S ss/\w'.ownsRow w.heap.size (ρ.t 26) 1 v ss.length (ss.map encZ)/\(v=.slice none 0 0 ↔ ss=[])/\Below w.heap.size w w':=by
 have h1:1<=n:=by omega
 have mixed:=L.mixed; have t0:=L.t0; have a0:=L.a0; have z0:=L.z0; have v0:=L.v0; have t24:=L.t24; have a24:=L.a24; have z24:=L.z24; have v24:=L.v24; have t26:=L.t26; have a26:=L.a26; have z26:=L.z26; have v26:=L.v26; have t28:=L.t28; have a28:=L.a28; have z28:=L.z28; have v28:=L.v28
 have hne:ρ.t 24 ≠ ρ.t 26:=fun e=>by have h:=L.t24; rw [e,L.t26] at h; cases h
 have u0:=run_underlying L.t0; have u24:=run_underlying L.t24; have u26:=run_underlying L.t26; have u28:=run_underlying L.t28
 obtain ⟨_,_,FG⟩:=L.f11
 refine callsIn_of_wp_marks FG rfl h11 ?_ hro
 simp only [SlBodyZ.n11_ntmps ρ,List.size_toArray,List.length_cons,List.length_nil,Nat.reduceAdd,Nat.reduceSub,Array.replicate_succ,Array.replicate_zero,List.push_toArray,List.append_toArray,List.nil_append,List.cons_append]
 gi_wp2
 refine wpIn_rangeFunc ?_
 intro fn hfn
 rw [hro]
 obtain ⟨W0,hW0⟩:∃ W0,w.alloc (.cells #[.slice none 0 0] (ρ.t 24))=W0:=⟨_,rfl⟩
 have hs0:W0.heap.size=w.heap.size + 1:=by rw [<-hW0]; simp
 have hv0:W0.heap[w.heap.size]? = some (.cells #[.slice none 0 0] (ρ.t 24) (0,0)):=by rw [<-hW0]; exact World.alloc_heap_new w _
 have hb0:Below w.heap.size w W0:=by rw [<-hW0]; exact (Below.refl _ w).alloc (Nat.le_refl _) _
 rw [hW0]
 obtain ⟨W1,hW1⟩:∃ W1,(W0.alloc (.deferred (some []))).alloc (.loop (AnyZI.apRec ρ fn (.func (.func g) #[] lb) w.heap.size W0.heap.size .ready none))=W1:=⟨_,rfl⟩
 have hold:∀ k,k < W0.heap.size->W1.heap[k]? = W0.heap[k]?:=fun k hk=>by
  rw [<-hW1]; exact (Below.heap_alloc _ _ k (by simp; omega)).trans (Below.heap_alloc _ _ k hk)
 have hb1:Below w.heap.size w W1:=by rw [<-hW1]; exact (hb0.alloc hb0.size _).alloc (by have:=hb0.size; simp; omega) _
 have hs1:W1.heap.size=W0.heap.size + 2:=by rw [<-hW1]; simp
 have hM:AnyZI.ApAt ρ w fn (.func (.func g) #[] lb) w.heap.size (W0.heap.size + 1) W0.heap.size [] W1:=
  ⟨⟨_,(hold w.heap.size (by omega)).trans hv0,⟨rfl,.inl ⟨rfl,rfl⟩⟩,by simp⟩,
   by rw [<-hW1]; have:=World.alloc_heap_new (W0.alloc (.deferred (some []))) (.loop (AnyZI.apRec ρ fn (.func (.func g) #[] lb) w.heap.size W0.heap.size .ready none)); rwa [World.size_alloc] at this,
   by rw [<-hW1]; exact (Below.heap_alloc _ _ _ (by simp)).trans (World.alloc_heap_new W0 _),hb1⟩
 refine ⟨W0.heap.size + 1,[{ target:=.collected W0.heap.size,args:=#[] }],W1,{ target:=.fn (.func g) lb,args:=#[.func (.yield (W0.heap.size + 1)) #[] #[]] },W1,g,
  #[.func (.yield (W0.heap.size + 1)) #[] #[]] ++ lb,W1,?_,?_,?_,?_,fun _=>h1,?_⟩
 · rw [<-hW1]; exact run_enterLoop_outer _ _ _ _ _
 · simp [resolve,go_sem]
 · intro f' hf'; simp [Target.leads] at hf'; subst hf'; exact hFg
 · simp [invoke,go_sem,eg]
 · refine (hseq (W0.heap.size + 1) (AnyZI.ApAt ρ w fn (.func (.func g) #[] lb) w.heap.size (W0.heap.size + 1) W0.heap.size) W1 (fun pre W h=>h.below)
    (fun pre x W hJ hl=>AnyZI.apYield { L with } F (n - 1 - 1) w fn hfn _ w.heap.size (W0.heap.size + 1) W0.heap.size (by omega) (by omega) (by omega) (Nat.le_refl _) (by omega) N hN hNb pre x W hJ hl) hM).mono ?_
   rintro e W2 ⟨⟨v0,rfl⟩,ss,hS,h2⟩
   obtain ⟨v,hv,hrow,hnil⟩:=h2.box
   have hend:=run_endLoop (P:=P) h2.L (by simp [AnyZI.apRec])
   obtain ⟨W3,hW3⟩:∃ W3,W2.putObj (W0.heap.size + 1) (.loop { AnyZI.apRec ρ fn (.func (.func g) #[] lb) w.heap.size W0.heap.size .ready none with state:=.exhausted })=W3:=⟨_,rfl⟩
   rw [hW3] at hend
   have hg3:W2.grownBy W3 (some (W0.heap.size + 1)):=by rw [<-hW3]; exact grownBy_putObj_a _ _ _
   have hv3:W3.heap[w.heap.size]? = some (.cells #[v] (ρ.t 24) (0,0)):=by rw [<-hW3]; exact (World.putObj_heap_other (by omega)).trans hv
   have hK3:W3.heap[W0.heap.size]? = some (.deferred (some [])):=by rw [<-hW3]; exact (World.putObj_heap_other (by omega)).trans h2.K
   have hrow3:=hrow.kept hg3 (ownsRow_ne_a hrow h2.L (fun cur e=>by first | cases e | exact hne (Obj.cells.inj e).2.1))
   have hb3:Below w.heap.size w W3:=h2.below.grown hg3 h2.below.size (fun k e=>by cases e; omega)
   obtain ⟨hc3,hf3⟩:=cell_of_box_a hv3
   clear hW3
   refine ⟨none,W3,hend,?_⟩
   gi_wp2
   rw [<-hs0]
   refine ⟨by simp,.inl ⟨_,_,rfl,run_takeDeferred hK3,?_⟩⟩
   exact ⟨_,results_tmp rfl _ _ _,v,ss,rfl,hS,hrow3.kept (grownBy_putObj_a _ _ _) (ownsRow_ne_a hrow3 hK3 (fun cur e=>by first | cases e | exact hne (Obj.cells.inj e).2.1)),hnil,hb3.grown (grownBy_putObj_a _ _ _) hb3.size (fun k e=>by cases e; omega)⟩
theorem Tryz.appOK:Go.Z.AppOK Tryz.prog 221 187 3 where
 ent:=Tryz.apS.f11.enters rfl
 ag:=by kernel_rfl
 run:=by
  intro w Bs o oa c zs hBs hcs hnil hreach
  have cell_lt:∀ {b o:Nat} {v:Value},w.cell? ⟨b,o,none⟩=some v->b < w.heap.size:=fun {b o v} h=>by
   unfold World.cell? at h
   refine Classical.byContradiction fun hn=>?_
   rw [Array.getElem?_eq_none (by simpa using hn)] at h
   simp at h
  have hBlt:Bs < w.heap.size:=cell_lt hBs
  refine (callsIn_wide (n:=4)).1 ?_
  have:=Tryz.appendSeq_in Tryz.apS Fence.wide 4 trivial rfl (by omega) 187 #[.pointer (some ⟨Bs,o,none⟩)] trivial (fun args w=>by simp [go_sem]) (fun ys=>ys=zs) zs.length (by simp [maxLen]; omega) (by omega) w (fun l J W hJb hY h0=>by
   by_cases hz:zs=[]
   · subst hz
     exact (Tryz.values1_nil_in Fence.wide 3 trivial rfl l Bs o oa c J W (((hJb _ _ h0).cell (p:=⟨Bs,o,none⟩) hBlt).trans hBs) h0).mono fun e W' ⟨he,hj⟩=>⟨he,_,rfl,hj⟩
   · cases oa with
     | none=>exact absurd (hnil rfl) hz
     | some ad=>
      have h0z:zs[0]? = some (zs[0]'(List.length_pos_iff.2 hz)):=List.getElem?_eq_getElem _
      have hc0:=hcs ad rfl 0 _ h0z
      obtain ⟨b,off,sp⟩:=ad
      cases sp with
      | some s=>
       simp only [World.cell?,Addr.add] at hc0
       split at hc0<;>simp at hc0
      | none=>
       have hbl:b < w.heap.size:=cell_lt hc0
       refine (Tryz.values1_in Fence.wide 3 trivial rfl (by omega) l Bs o w.heap.size b off zs.length c zs hreach w hbl hBlt J hJb hY W hBs (fun j hj=>?_) h0).mono fun e W' ⟨he,hj⟩=>⟨he,_,Tryz.upto_all zs,hj⟩
       have hz':zs[j]? = some zs[j]:=List.getElem?_eq_getElem hj
       have:=hcs _ rfl j _ hz'
       rw [hz']
       by_cases hj0:j=0
       · subst hj0; simpa [Addr.add] using this
       · simpa [Addr.add,hj0] using this)
  refine this.mono ?_
  rintro e w' ⟨v,ss,rfl,rfl,h1,h2,h3⟩
  exact ⟨v,rfl,h1,h2,h3⟩
end Go.Proofs
namespace Go.Proofs
open Go.Z
theorem Tryz.lawRun:ev Tryz.prog (z3 221 187) 60 3 [.k .w] (.mk 0 .lf) (fun r _=>xR r)=true:=by kernel_rfl
theorem Tryz.law (v:Value) (w:World) :
 Calls Tryz.prog 3 #[v] w (fun e w'=>e=.returned (.bool true)/\(∀ b,b < w.heap.size->w'.heap[b]? = w.heap[b]?)/\w.heap.size<=w'.heap.size/\w'.os=w.os/\w'.tape=w.tape/\w'.output=w.output):=
 yR (us:=[v]) (zE Tryz.appOK) Tryz.lawRun (AllR.cons (.kw v) .nil) w
#print axioms Tryz.law
end Go.Proofs
namespace Go.W
inductive C where
 | no
 | vl (v:Value)
 | pt (n off:Nat)
 | sl (n len:Nat)
 | qt (n len sz i j:Nat)
 | fz (xs:List (List C))
 | fp (r:List C) (j:Nat)
 | fn (f:FuncId) (cs:List (Bool × List C))
 | dp (n len:Nat)
 | mp (n:Nat)
 | fm (f:FuncId) (fs:List (List C))
def All2 {α β:Type} (R:α->β->Prop) (l:List α) (m:List β):Prop:=l.length=m.length/\∀ (i:Nat) (x:α) (y:β),l[i]? = some x->m[i]? = some y->R x y
section
variable {α β:Type} {R:α->β->Prop}
theorem All2.nil:All2 R [] []:=⟨rfl,fun i x y h=>by simp at h⟩
theorem All2.cons {x:α} {y:β} {l:List α} {m:List β} (h:R x y) (k:All2 R l m):All2 R (x :: l) (y :: m):=by
 refine ⟨by simp [k.1],fun i a b ha hb=>?_⟩
 cases i with
 | zero=>simp at ha hb; subst ha; subst hb; exact h
 | succ i=>exact k.2 i a b (by simpa using ha) (by simpa using hb)
theorem All2.get {l:List α} {m:List β} (h:All2 R l m) {i:Nat} {x:α} (hx:l[i]? = some x):∃ y,m[i]? = some y/\R x y:=by
 have hi:i < m.length:=by rw [<-h.1]; exact (bT.1 hx).1
 exact ⟨m[i],b5 hi,h.2 i x _ hx (b5 hi)⟩
theorem All2.get' {l:List α} {m:List β} (h:All2 R l m) {i:Nat} {y:β} (hy:m[i]? = some y):∃ x,l[i]? = some x/\R x y:=by
 have hi:i < l.length:=by rw [h.1]; exact (bT.1 hy).1
 exact ⟨l[i],b5 hi,h.2 i _ y (b5 hi) hy⟩
theorem All2.imp {S:α->β->Prop} (hi:∀ x y,R x y->S x y) {l:List α} {m:List β} (h:All2 R l m):All2 S l m:=⟨h.1,fun i x y hx hy=>hi _ _ (h.2 i x y hx hy)⟩
theorem All2.map {γ:Type} {S:γ->β->Prop} {f:α->γ} (hi:∀ x y,R x y->S (f x) y) {l:List α} {m:List β} (h:All2 R l m):All2 S (l.map f) m:=by
 refine ⟨by simp [h.1],fun i x y hx hy=>?_⟩
 rw [List.getElem?_map] at hx
 cases hl:l[i]? with
 | none=>simp [hl] at hx
 | some z=>simp [hl] at hx; subst hx; exact hi _ _ (h.2 i z y hl hy)
theorem All2.app {l l':List α} {m m':List β} (h:All2 R l m) (k:All2 R l' m'):All2 R (l ++ l') (m ++ m'):=by
 refine ⟨by simp [h.1,k.1],fun i x y hx hy=>?_⟩
 rw [List.getElem?_append] at hx hy
 rw [<-h.1] at hy
 split at hx
 · rename_i hlt; rw [if_pos hlt] at hy; exact h.2 i x y hx hy
 · rename_i hlt; rw [if_neg hlt] at hy; exact k.2 _ x y hx hy
theorem All2.take {l:List α} {m:List β} (h:All2 R l m) (k:Nat):All2 R (l.take k) (m.take k):=by
 refine ⟨by simp [h.1],fun i x y hx hy=>?_⟩
 rw [List.getElem?_take] at hx hy
 split at hx
 · rename_i hlt; rw [if_pos hlt] at hy; exact h.2 i x y hx hy
 · cases hx
theorem All2.drop {l:List α} {m:List β} (h:All2 R l m) (k:Nat):All2 R (l.drop k) (m.drop k):=by
 refine ⟨by simp [h.1],fun i x y hx hy=>?_⟩
 rw [List.getElem?_drop] at hx hy
 exact h.2 _ x y hx hy
theorem All2.nil_inv {m:List β} (h:All2 R [] m):m=[]:=List.eq_nil_of_length_eq_zero h.1.symm
theorem All2.cons_inv {x:α} {l:List α} {m:List β} (h:All2 R (x :: l) m):∃ y m',m=y :: m'/\R x y/\All2 R l m':=by
 cases m with
 | nil=>have:=h.1; simp at this
 | cons y m'=>exact ⟨y,m',rfl,h.2 0 x y rfl rfl,by simpa using h.1,fun i a b ha hb=>h.2 (i + 1) a b (by simpa using ha) (by simpa using hb)⟩
end
structure Gb where
 ob:Option Nat
 row:Bool
 len:Nat
 cap:Nat
 T:TypeId
 vs:List Value
abbrev RO:=Nat->Nat->Option Value
def kV (o:Option (Nat × Nat)) (k:Nat):Option Addr:=o.map fun x=>⟨x.1,x.2 + k,none⟩
def aG (o:Option Nat) (k:Nat):Option Addr:=o.map fun b=>⟨b,k,none⟩
def C.shut:C->Bool
 | .vl _ | .fz _=>true
 | _=>false
inductive FzR (ro:RO):List (List C)->Value->Prop
 | mk (xs:List (List C)) (sz:Nat) (o:Option (Nat × Nat)) (oa:Option Addr) (hoa:xs ≠ []->oa=kV o 0) (cap:Nat) (vs:Nat->Value) (hz:∀ x ∈ xs,x.length=sz) (hc:xs.length<=cap) (ho:xs ≠ []->o.isSome=true)
  (h1:∀ k c,xs.flatten[k]? = some c->ro (o.getD (0,0)).1 ((o.getD (0,0)).2 + k)=some (vs k)) (h2:∀ k v,xs.flatten[k]? = some (.vl v)->vs k=v)
  (h3:∀ k ys,xs.flatten[k]? = some (.fz ys)->FzR ro ys (vs k)) (h4:∀ c ∈ xs.flatten,c.shut=true):FzR ro xs (.slice oa xs.length cap)
def C.fv (ro:RO):C->Value->Prop
 | .vl v,u=>u=v
 | .fz xs,u=>FzR ro xs u
 | _,_=>False
def C.rel0 (γ:List Gb) (ro:RO):C->Value->Prop
 | .no,_=>True
 | .vl v,u=>u=v
 | .pt n off,u=>∃ g b,γ[n]? = some g/\g.row=false/\g.ob=some b/\u=.pointer (some ⟨b,off,none⟩)
 | .sl n len,u=>∃ g,γ[n]? = some g/\g.row=true/\len<=g.len/\(∃ o m c,u=.slice o m c)/\(len=g.len->u=.slice (aG g.ob 0) len g.cap)
 | .qt n len sz i j,u=>∃ g,γ[n]? = some g/\g.row=true/\len<=g.len/\(∃ o,u=.pointer o)/\(len=g.len->∃ b,g.ob=some b/\u=.pointer (some ⟨b,i * sz + j,none⟩))
 | .fz xs,u=>FzR ro xs u
 | .fp r j,u=>∃ b off,u=.pointer (some ⟨b,off + j,none⟩)/\∀ k c,r[k]? = some c->∃ v,ro b (off + k)=some v/\c.fv ro v
 | .dp n len,u=>∃ g,γ[n]? = some g/\g.row=true/\len<=g.len/\(∃ o,u=.pointer o)/\(len=g.len->u=.pointer (aG g.ob 0))
 | .mp n,u=>∃ g b,γ[n]? = some g/\g.row=false/\g.ob=some b/\u=.map (some b)
 | .fn _ _,_=>False
 | .fm f fs,u=>∃ vs:List Value,u=.func (.func f) vs.toArray #[]/\All2 (fun cs v=>∃ us:List Value,v=.agg us.toArray/\All2 (C.fv ro) cs us) fs vs
def lC (γ:List Gb) (ro:RO):Bool × List C->Value->Prop
 | (false,[c]),u=>c.rel0 γ ro u
 | (true,cs),u=>∃ vs:List Value,u=.agg vs.toArray/\All2 (C.rel0 γ ro) cs vs
 | _,_=>False
def C.rel (γ:List Gb) (ro:RO):C->Value->Prop
 | .fn f cs,u=>∃ vs:List Value,u=.func (.func f) #[] vs.toArray/\All2 (lC γ ro) cs vs
 | c,u=>c.rel0 γ ro u
theorem C.rel_of0 {γ:List Gb} {ro:RO} {c:C} {v:Value} (h:c.rel0 γ ro v):c.rel γ ro v:=by
 cases c<;>first | exact h | exact h.elim
def C.isFn:C->Bool
 | .fn _ _ | .fm _ _=>true
 | _=>false
theorem C.rel_to0 {γ:List Gb} {ro:RO} {c:C} {v:Value} (hc:c.isFn=false) (h:c.rel γ ro v):c.rel0 γ ro v:=by
 cases c<;>first | exact h | cases hc
theorem C.rel_fv {γ:List Gb} {ro:RO} {c:C} {v:Value} (h:c.fv ro v):c.rel γ ro v:=by
 cases c<;>first | exact h | exact h.elim
theorem C.rel_shut {γ:List Gb} {ro:RO} {c:C} (h:c.shut=true) {v:Value}:c.rel γ ro v ↔ c.fv ro v:=by
 cases c<;>simp [C.shut] at h<;>exact Iff.rfl
def Ext (ro ro':RO):Prop:=∀ b off v,ro b off=some v->ro' b off=some v
theorem Ext.refl (ro:RO):Ext ro ro:=fun _ _ _ h=>h
theorem Ext.trans {a b c:RO} (h:Ext a b) (k:Ext b c):Ext a c:=fun _ _ _ e=>k _ _ _ (h _ _ _ e)
def Gb.le (g g':Gb):Prop:=g'.row=g.row/\((g'.ob=g.ob/\g'.len=g.len/\g'.cap=g.cap)\/(g.row=true/\g.len < g'.len))
theorem Gb.le_refl (g:Gb):g.le g:=⟨rfl,.inl ⟨rfl,rfl,rfl⟩⟩
theorem Gb.le_trans {a b c:Gb} (h:a.le b) (k:b.le c):a.le c:=by
 obtain ⟨h1,h2⟩:=h; obtain ⟨k1,k2⟩:=k
 refine ⟨k1.trans h1,?_⟩
 rcases h2 with ⟨p,q,r⟩ | ⟨p,q⟩<;>rcases k2 with ⟨p',q',r'⟩ | ⟨p',q'⟩
 · exact .inl ⟨p'.trans p,q'.trans q,r'.trans r⟩
 · exact .inr ⟨by rw [<-h1]; exact p',by omega⟩
 · exact .inr ⟨p,by omega⟩
 · exact .inr ⟨p,by omega⟩
def GExt (γ γ':List Gb):Prop:=∀ (n:Nat) (g:Gb),γ[n]? = some g->∃ g',γ'[n]? = some g'/\g.le g'
theorem GExt.refl (γ:List Gb):GExt γ γ:=fun _ g h=>⟨g,h,g.le_refl⟩
theorem GExt.trans {a b c:List Gb} (h:GExt a b) (k:GExt b c):GExt a c:=fun n g e=>by
 obtain ⟨g1,h1,h2⟩:=h n g e
 obtain ⟨g2,k1,k2⟩:=k n g1 h1
 exact ⟨g2,k1,Gb.le_trans h2 k2⟩
theorem FzR.mono {ro ro':RO} (he:Ext ro ro') {xs:List (List C)} {v:Value} (h:FzR ro xs v):FzR ro' xs v:=by
 induction h with
 | mk xs sz o oa hoa cap vs hz hc ho h1 h2 h3 h4 ih=>exact .mk xs sz o oa hoa cap vs hz hc ho (fun k c hk=>he _ _ _ (h1 k c hk)) h2 ih h4
theorem C.fv_mono {ro ro':RO} (he:Ext ro ro') {c:C} {v:Value} (h:c.fv ro v):c.fv ro' v:=by
 cases c<;>first | exact h | exact FzR.mono he h
theorem C.rel0_mono {γ γ':List Gb} {ro ro':RO} (hg:GExt γ γ') (he:Ext ro ro') {c:C} {v:Value} (h:c.rel0 γ ro v):c.rel0 γ' ro' v:=by
 cases c with
 | no=>trivial
 | vl u=>exact h
 | pt n off=>
  obtain ⟨g,b,h1,h2,h3,h4⟩:=h
  obtain ⟨g',k1,k2,k3⟩:=hg n g h1
  rcases k3 with ⟨p,q,r⟩ | ⟨p,q⟩
  · exact ⟨g',b,k1,k2.trans h2,p.trans h3,h4⟩
  · rw [h2] at p; cases p
 | sl n len=>
  obtain ⟨g,h1,h2,h3,h4,h5⟩:=h
  obtain ⟨g',k1,k2,k3⟩:=hg n g h1
  refine ⟨g',k1,k2.trans h2,?_,h4,?_⟩
  · rcases k3 with ⟨p,q,r⟩ | ⟨p,q⟩<;>omega
  · intro e
    rcases k3 with ⟨p,q,r⟩ | ⟨p,q⟩
    · rw [p,r]; exact h5 (e.trans q)
    · omega
 | qt n len sz i j=>
  obtain ⟨g,h1,h2,h3,h4,h5⟩:=h
  obtain ⟨g',k1,k2,k3⟩:=hg n g h1
  refine ⟨g',k1,k2.trans h2,?_,h4,?_⟩
  · rcases k3 with ⟨p,q,r⟩ | ⟨p,q⟩<;>omega
  · intro e
    rcases k3 with ⟨p,q,r⟩ | ⟨p,q⟩
    · rw [p]; exact h5 (e.trans q)
    · omega
 | dp n len=>
  obtain ⟨g,h1,h2,h3,h4,h5⟩:=h
  obtain ⟨g',k1,k2,k3⟩:=hg n g h1
  refine ⟨g',k1,k2.trans h2,?_,h4,?_⟩
  · rcases k3 with ⟨p,q,r⟩ | ⟨p,q⟩<;>omega
  · intro e
    rcases k3 with ⟨p,q,r⟩ | ⟨p,q⟩
    · rw [p]; exact h5 (e.trans q)
    · omega
 | fz xs=>exact FzR.mono he h
 | fp r j=>
  obtain ⟨b,off,h1,h2⟩:=h
  exact ⟨b,off,h1,fun k c hk=>by obtain ⟨v,p,q⟩:=h2 k c hk; exact ⟨v,he _ _ _ p,C.fv_mono he q⟩⟩
 | mp n=>
  obtain ⟨g,b,h1,h2,h3,h4⟩:=h
  obtain ⟨g',k1,k2,k3⟩:=hg n g h1
  rcases k3 with ⟨p,q,r⟩ | ⟨p,q⟩
  · exact ⟨g',b,k1,k2.trans h2,p.trans h3,h4⟩
  · rw [h2] at p; cases p
 | fn f cs=>exact h.elim
 | fm f fs=>obtain ⟨vs,h1,h2⟩:=h; exact ⟨vs,h1,h2.imp fun _ _ ⟨us,k1,k2⟩=>⟨us,k1,k2.imp fun _ _=>C.fv_mono he⟩⟩
theorem vX {γ γ':List Gb} {ro ro':RO} (hi:∀ c v,C.rel0 γ ro c v->C.rel0 γ' ro' c v) {x:Bool × List C} {v:Value} (h:lC γ ro x v):lC γ' ro' x v:=by
 obtain ⟨b,cs⟩:=x
 cases b with
 | false=>
  match cs,h with
  | [c],h=>exact hi c v h
 | true=>
  obtain ⟨vs,h1,h2⟩:=h
  exact ⟨vs,h1,h2.imp hi⟩
theorem C.rel_mono {γ γ':List Gb} {ro ro':RO} (hg:GExt γ γ') (he:Ext ro ro') {c:C} {v:Value} (h:c.rel γ ro v):c.rel γ' ro' v:=by
 cases c with
 | fn f cs=>
  obtain ⟨vs,h1,h2⟩:=h
  exact ⟨vs,h1,h2.imp fun x v=>vX fun _ _=>C.rel0_mono hg he⟩
 | fm f fs=>exact C.rel0_mono hg he (c:=.fm f fs) h
 | _=>exact C.rel_of0 (C.rel0_mono hg he (C.rel_to0 rfl h))
inductive A where
 | c1 (c:C)
 | gs (cs:List C)
def A.rel (γ:List Gb) (ro:RO):A->Value->Prop
 | .c1 c,u=>c.rel γ ro u
 | .gs cs,u=>∃ vs:List Value,u=.agg vs.toArray/\All2 (C.rel γ ro) cs vs
def A.ofV:Value->A
 | .agg cs=>.gs (cs.toList.map C.vl)
 | v=>.c1 (.vl v)
def A.cells:A->List C
 | .c1 c=>[c]
 | .gs cs=>cs
def C.one:C->Prop
 | .no=>False
 | .vl v=>v.oneCell'=true
 | _=>True
theorem FzR.slice {ro:RO} {xs:List (List C)} {v:Value} (h:FzR ro xs v):∃ o m c,v=.slice o m c:=by cases h; exact ⟨_,_,_,rfl⟩
theorem C.one_rel {γ:List Gb} {ro:RO} {c:C} {v:Value} (h:c.one) (hr:c.rel γ ro v):v.oneCell'=true:=by
 cases c with
 | no=>exact h.elim
 | vl u=>have hr':v=u:=hr; subst hr'; exact h
 | pt n off=>obtain ⟨g,b,_,_,_,rfl⟩:=hr; rfl
 | sl n len=>obtain ⟨g,_,_,_,⟨o,m,c,rfl⟩,_⟩:=hr; rfl
 | qt n len sz i j=>obtain ⟨g,_,_,_,⟨o,rfl⟩,_⟩:=hr; rfl
 | fz xs=>obtain ⟨o,m,c,rfl⟩:=FzR.slice hr; rfl
 | fp r j=>obtain ⟨b,off,rfl,_⟩:=hr; rfl
 | fn f cs=>obtain ⟨vs,rfl,_⟩:=hr; rfl
 | fm f cs=>obtain ⟨vs,rfl,_⟩:=hr; rfl
 | mp n=>obtain ⟨g,b,_,_,_,rfl⟩:=hr; rfl
 | dp n len=>obtain ⟨g,_,_,_,⟨o,rfl⟩,_⟩:=hr; rfl
def A.ok:A->Prop
 | .c1 c=>c.one
 | .gs _=>True
theorem A.cells_rel {γ:List Gb} {ro:RO} {a:A} {v:Value} (hr:a.rel γ ro v) (h:a.ok):All2 (C.rel γ ro) a.cells v.cells.toList:=by
 cases a with
 | c1 c=>
  have h1:=C.one_rel h hr
  have:v.cells.toList=[v]:=by cases v<;>simp_all [Value.cells,Value.oneCell']
  rw [this]
  exact .cons hr .nil
 | gs cs=>
  obtain ⟨vs,rfl,h1⟩:=hr
  simpa [A.cells,Value.cells] using h1
inductive S where
 | va (a:A)
 | tu (l:List A)
 | cn (g:Bool) (a:A)
 | un
def S.rel (γ:List Gb) (ro:RO):S->Value->Prop
 | .va a,v=>a.rel γ ro v
 | .tu l,v=>∃ vs:List Value,v=.tuple vs.toArray/\All2 (A.rel γ ro) l vs
 | .cn g a,v=>(g=true->a.rel γ ro v)/\(g=false->v=undef)
 | .un,_=>True
def S.ofV:Value->S
 | .tuple vs=>.tu (vs.toList.map A.ofV)
 | v=>.va (.ofV v)
section
variable {γ γ':List Gb} {ro ro':RO}
theorem A.rel_mono (hg:GExt γ γ') (he:Ext ro ro') {a:A} {v:Value} (h:a.rel γ ro v):a.rel γ' ro' v:=by
 cases a with
 | c1 c=>exact C.rel_mono hg he h
 | gs cs=>obtain ⟨vs,h1,h2⟩:=h; exact ⟨vs,h1,h2.imp fun _ _=>C.rel_mono hg he⟩
theorem S.rel_mono (hg:GExt γ γ') (he:Ext ro ro') {s:S} {v:Value} (h:s.rel γ ro v):s.rel γ' ro' v:=by
 cases s with
 | va a=>exact A.rel_mono hg he h
 | tu l=>obtain ⟨vs,h1,h2⟩:=h; exact ⟨vs,h1,h2.imp fun _ _=>A.rel_mono hg he⟩
 | cn g a=>exact ⟨fun e=>A.rel_mono hg he (h.1 e),h.2⟩
 | un=>trivial
theorem fN (vs:List Value):All2 (C.rel γ ro) (vs.map C.vl) vs:=by
 refine ⟨by simp,fun i x y hx hy=>?_⟩
 rw [List.getElem?_map,hy] at hx
 simp at hx; subst hx; rfl
theorem A.rel_ofV (v:Value):(A.ofV v).rel γ ro v:=by
 unfold A.ofV
 split
 · rename_i cs; exact ⟨cs.toList,by simp,fN _⟩
 · rfl
theorem S.rel_ofV (v:Value):(S.ofV v).rel γ ro v:=by
 unfold S.ofV
 split
 · rename_i vs
   refine ⟨vs.toList,by simp,by simp,fun i x y hx hy=>?_⟩
   rw [List.getElem?_map,hy] at hx
   simp at hx; subst hx; exact A.rel_ofV _
 · exact A.rel_ofV v
end
inductive B where
 | cells (cs:List C) (T:TypeId)
 | row (xs:List (List C)) (T:TypeId) (sz:Nat)
 | rowx (xs:List (List C)) (T:TypeId) (sz:Nat)
 | map (kd:TypeDesc) (ks:List Value) (vs:List A)
 | dead
def B.live:B->Bool
 | .dead=>false
 | _=>true
abbrev Hp:=List B
abbrev Es:=List (Gb × B)
abbrev Fr:=Nat->S
def gm (E:Es):List Gb:=E.map (·.1)
def hp (E:Es):Hp:=E.map (·.2)
theorem aQ {E:Es} {n:Nat} {g:Gb} {blk:B} (h:E[n]? = some (g,blk)):(gm E)[n]? = some g:=by simp [gm,h]
theorem g4 {E:Es} {n:Nat} {g:Gb} {blk:B} (h:E[n]? = some (g,blk)):(hp E)[n]? = some blk:=by simp [hp,h]
theorem aR {E:Es} {n:Nat} {blk:B} (h:(hp E)[n]? = some blk):∃ g,E[n]? = some (g,blk):=by
 simp only [hp,List.getElem?_map] at h
 cases he:E[n]? with
 | none=>simp [he] at h
 | some y=>simp [he] at h; exact ⟨y.1,by rw [<-h]⟩
theorem jK {E:Es} {n:Nat} {g:Gb} (h:(gm E)[n]? = some g):∃ blk,E[n]? = some (g,blk):=by
 simp only [gm,List.getElem?_map] at h
 cases he:E[n]? with
 | none=>simp [he] at h
 | some y=>simp [he] at h; exact ⟨y.2,by rw [<-h]⟩
theorem b4 (E:Es):(hp E).length=E.length:=by simp [hp]
theorem AF (E:Es):(gm E).length=E.length:=by simp [gm]
def B.On (γ:List Gb) (ro:RO) (w:World) (g:Gb):B->Prop
 | .cells cs T=>g.row=false/\∃ b,g.ob=some b/\w.heap[b]? = some (.cells g.vs.toArray T (0,0))/\All2 (C.rel γ ro) cs g.vs
 | .row xs T sz=>g.row=true/\g.len=xs.length/\(∀ x ∈ xs,x.length=sz)/\(∀ c ∈ xs.flatten,c.shut=true)/\w.ownsRow 0 T sz (.slice (aG g.ob 0) xs.length g.cap) xs.length g.vs/\All2 (C.fv ro) xs.flatten g.vs/\(∀ b,g.ob=some b->0 < g.cap)
 | .rowx xs T sz=>g.row=true/\g.len=xs.length/\(∀ x ∈ xs,x.length=sz)/\w.ownsRow 0 T sz (.slice (aG g.ob 0) xs.length g.cap) xs.length g.vs/\All2 (C.rel γ ro) xs.flatten g.vs/\(∀ b,g.ob=some b->0 < g.cap)
 | .map kd ks vs=>g.row=false/\(∀ k ∈ ks,MapKept.IsKey kd k)/\All2 (A.rel γ ro) vs g.vs/\∃ (b:Nat) (es:Array MapEntry) (clock:Nat),g.ob=some b/\w.heap[b]? = some (.map es clock)/\es.toList.map (·.key)=ks/\es.toList.map (·.val)=g.vs
 | .dead=>True
structure Ctx where
 w0:World
 pb:List Nat
 ro0:RO
 g0:List Gb
structure Rel (X:Ctx) (E:Es) (ro:RO) (w:World):Prop where
 own:∀ (n:Nat) (g:Gb) (blk:B),E[n]? = some (g,blk)->blk.On (gm E) ro w g
 inj:∀ (n m:Nat) (gn gm:Gb) (bn bm:B) (b:Nat),E[n]? = some (gn,bn)->E[m]? = some (gm,bm)->gn.ob=some b->gm.ob=some b->bn.live=true->bm.live=true->n=m
 apart:∀ (b off:Nat) (v:Value),ro b off=some v->∀ (n:Nat) (g:Gb) (blk:B),E[n]? = some (g,blk)->g.ob=some b->blk.live=false
 rd:∀ (b off:Nat) (v:Value),ro b off=some v->w.cell? ⟨b,off,none⟩=some v
 ro0:Ext X.ro0 ro
 rob:∀ (b off:Nat) (v:Value),ro b off=some v->X.ro0 b off=some v\/X.w0.heap.size<=b\/b ∈ X.pb
 par:∀ (n b:Nat) (g:Gb) (blk:B),E[n]? = some (g,blk)->g.ob=some b->blk.live=true->X.w0.heap.size<=b\/b ∈ X.pb
 gx:GExt X.g0 (gm E)
 sz:X.w0.heap.size<=w.heap.size
 keep:∀ b:Nat,b < X.w0.heap.size->b ∉ X.pb->w.heap[b]? = X.w0.heap[b]?
 os:w.os=X.w0.os
 tape:w.tape=X.w0.tape
 output:w.output=X.w0.output
theorem Rel.drew {X:Ctx} {E:Es} {ro:RO} {w:World} (h:Rel X E ro w):Rel X E ro { w with drawn:=w.drawn + 1 }:=
 ⟨h.own,h.inj,h.apart,h.rd,h.ro0,h.rob,h.par,h.gx,h.sz,h.keep,h.os,h.tape,h.output⟩
structure FRel (N:Nat) (γ:List Gb) (ro:RO) (fr:Fr) (a:Act):Prop where
 size:a.tmps.size=N
 slot:∀ i:Nat,(fr i).rel γ ro (a.tmps.getD i undef)
 defers:a.defers=[]
theorem FRel.mono {N:Nat} {γ γ':List Gb} {ro ro':RO} (hg:GExt γ γ') (he:Ext ro ro') {fr:Fr} {a:Act} (h:FRel N γ ro fr a):FRel N γ' ro' fr a:=
 ⟨h.size,fun i=>S.rel_mono hg he (h.slot i),h.defers⟩
def put (fr:Fr) (d:Option Nat) (s:S):Fr:=
 match d with
 | some d=>fun i=>if i=d then s else fr i
 | none=>fr
theorem FRel.put {N:Nat} {γ:List Gb} {ro:RO} {fr:Fr} {a:Act} (h:FRel N γ ro fr a) {d:Option Nat} (hd:∀ k,d=some k->k < N) {s:S} {v:Value} (hs:s.rel γ ro v):FRel N γ ro (W.put fr d s) (a.put d v):=by
 cases d with
 | none=>exact h
 | some d=>
  have hdN:=hd d rfl
  refine ⟨by simp [Act.put,h.size],fun i=>?_,h.defers⟩
  simp only [W.put,Act.put]
  by_cases hi:i=d
  · subst hi
    rw [if_pos rfl,Array.getD_eq_getD_getElem?,Array.getElem?_setIfInBounds_self_of_lt (by rw [h.size]; exact hdN)]
    exact hs
  · rw [if_neg hi]
    have:=h.slot i
    rw [Array.getD_eq_getD_getElem?,Array.getElem?_setIfInBounds_ne (by omega)]
    rw [Array.getD_eq_getD_getElem?] at this
    exact this
inductive O where
 | t (i:Nat)
 | k (v:Value)
 | f (n:FuncId)
def aA:Operand->O
 | .tmp t=>.t t
 | .const v=>.k v
 | .func f=>.f f
 | .global g=>.k (.pointer (some ⟨g,0,none⟩))
def ev (fr:Fr):O->S
 | .t i=>fr i
 | .k v=>S.ofV v
 | .f n=>.va (.c1 (.fn n []))
theorem aC {N:Nat} {γ:List Gb} {ro:RO} {fr:Fr} {a:Act} (h:FRel N γ ro fr a) (x:Operand):(ev fr (aA x)).rel γ ro (a.eval x):=by
 cases x with
 | tmp t=>exact h.slot t
 | const v=>exact S.rel_ofV v
 | global g=>exact S.rel_ofV (.pointer (some ⟨g,0,none⟩))
 | func f=>exact ⟨[],rfl,.nil⟩
inductive Sh where
 | int (k:IntKind)
 | bool
 | str
inductive QI where
 | mv (x:O)
 | bin (op:BinOp) (nw:Bool) (x y:O)
 | eqB (neg:Bool) (x y:O)
 | eqP (neg:Bool) (x y:O)
 | eqT (neg:Bool) (fs:List (Nat × Sh)) (x y:O)
 | b2s (x:O)
 | not (x:O)
 | neg (nw:Bool) (x:O)
 | cvt (k:IntKind) (x:O)
 | fa (off:Nat) (x:O)
 | fld1 (off:Nat) (x:O)
 | fldn (off n:Nat) (x:O)
 | bd (zero:List Value) (parts:List (Nat × Nat × O))
 | ss (x:O) (lo hi:Option O)
 | sf (sz:Nat) (x:O) (lo hi:Option O)
 | lnS (x:O)
 | lnL (x:O)
 | ex (x:O) (i:Nat)
 | nc (x:O)
 | cu (x:O)
 | c4u (u k:Nat) (x:O)
 | usd (x:O)
 | mf (f:FuncId) (xs:List O)
 | mh (f:FuncId) (xs:List O)
 | mx (b:Bool) (x y:O)
 | ixa (len:Nat) (x i:O)
inductive LI where
 | ia (sz:Nat) (x i:O)
 | ld1 (x:O)
 | ldn (n:Nat) (x:O)
 | lk (kd:TypeDesc) (z:Value) (ok:Bool) (x k:O)
 | lm (x:O)
abbrev iS (k:IntKind) (n:Int):S:=.va (.c1 (.vl (.int k n)))
abbrev bS (b:Bool):S:=.va (.c1 (.vl (.bool b)))
abbrev tS (s:ByteArray):S:=.va (.c1 (.vl (.string s)))
def mk (l:List UInt8):ByteArray:=⟨l.toArray⟩
def bl (s:ByteArray):List UInt8:=s.data.toList
@[simp] theorem BE (l:List UInt8):bl (mk l)=l:=rfl
@[simp] theorem sZ (s:ByteArray):mk (bl s)=s:=ByteArray.ext (Array.toArray_toList (xs:=s.data))
theorem dE (s:ByteArray):s.size=(bl s).length:=(Array.length_toList (xs:=s.data)).symm
theorem jR (s:ByteArray):s.toList=bl s:=ByteArray.toList_eq s
def inr (k:IntKind) (n:Int):Prop:=k.min<=n/\n<=k.max
def wr (k:IntKind) (nw:Bool) (n:Int):Int:=if nw then n else k.wrap n
def lS (op:BinOp) (nw:Bool) (k:IntKind) (a b:Int):Option S:=
 match op with
 | .add=>some (iS k (wr k nw (a + b)))
 | .sub=>some (iS k (wr k nw (a - b)))
 | .mul=>some (iS k (wr k nw (a * b)))
 | .quo=>some (iS k (wr k nw (a.tdiv b)))
 | .rem=>some (iS k (a.tmod b))
 | .eql=>some (bS (a == b))
 | .neq=>some (bS (a != b))
 | .lss=>some (bS (decide (a < b)))
 | .leq=>some (bS (decide (a<=b)))
 | .gtr=>some (bS (decide (b < a)))
 | .geq=>some (bS (decide (b<=a)))
 | .shl=>some (iS k (k.wrap (a * 2 ^ (min b.toNat k.bits))))
 | .shr=>some (iS k (a.fdiv (2 ^ (min b.toNat k.bits))))
 | .and=>some (iS k (k.wrap (BitVec.ofInt k.bits a &&& BitVec.ofInt k.bits b).toNat))
 | .or=>some (iS k (k.wrap (BitVec.ofInt k.bits a ||| BitVec.ofInt k.bits b).toNat))
 | .xor=>some (iS k (k.wrap (BitVec.ofInt k.bits a ^^^ BitVec.ofInt k.bits b).toNat))
 | .andNot=>some (iS k (k.wrap (BitVec.ofInt k.bits a &&& ~~~ (BitVec.ofInt k.bits b)).toNat))
def lY (op:BinOp) (nw:Bool) (k k':IntKind) (a b:Int):Prop:=
 match op with
 | .add=>k=k'/\(nw=true->inr k (a + b))
 | .sub=>k=k'/\(nw=true->inr k (a - b))
 | .mul=>k=k'/\(nw=true->inr k (a * b))
 | .quo=>k=k'/\b ≠ 0/\(nw=true->inr k (a.tdiv b))
 | .rem=>k=k'/\b ≠ 0
 | .shl | .shr=>0<=b
 | _=>k=k'
def pI (op:BinOp) (a b:ByteArray):Option S:=
 match op with
 | .add=>some (tS (mk (bl a ++ bl b)))
 | .eql=>some (bS (bl a == bl b))
 | .neq=>some (bS (!(bl a == bl b)))
 | .lss=>some (bS (Op.bytesLess (bl a) (bl b)))
 | .leq=>some (bS (Op.bytesLess (bl a) (bl b) || bl a == bl b))
 | .gtr=>some (bS (!(Op.bytesLess (bl a) (bl b) || bl a == bl b)))
 | .geq=>some (bS (!(Op.bytesLess (bl a) (bl b))))
 | _=>none
def lX (op:BinOp) (a b:ByteArray):Prop:=
 match op with
 | .add=>(bl a).length + (bl b).length<=9223372036854775807
 | _=>True
theorem vQ {k:IntKind} {n:Int} (h:inr k n):k.wrap n=n:=by
 unfold inr IntKind.min IntKind.max at h
 unfold IntKind.wrap
 cases k<;>simp [IntKind.signed,IntKind.bits] at h ⊢<;>omega
theorem mK {k:IntKind} {nw:Bool} {n:Int} (h:nw=true->inr k n):wr k nw n=k.wrap n:=by
 unfold wr; split
 · exact (vQ (h ‹_›)).symm
 · rfl
theorem p7 {P:Program} {op:BinOp} {nw:Bool} {k k':IntKind} {a b:Int} {t:TypeId} {s:S} (h:lS op nw k a b=some s) (hc:lY op nw k k' a b) :
 ∃ v,(∀ γ ro,s.rel γ ro v)/\∀ w,(binOp op t (.int k a) (.int k' b)).run P w=.ok v w:=by
 cases op<;>simp only [lS,aB] at h<;>subst h<;>simp only [lY] at hc
 case add=>obtain ⟨rfl,hc⟩:=hc; exact ⟨_,fun _ _=>rfl,fun w=>by simp [binOp,Op.intArith,mK hc]⟩
 case sub=>obtain ⟨rfl,hc⟩:=hc; exact ⟨_,fun _ _=>rfl,fun w=>by simp [binOp,Op.intArith,mK hc]⟩
 case mul=>obtain ⟨rfl,hc⟩:=hc; exact ⟨_,fun _ _=>rfl,fun w=>by simp [binOp,Op.intArith,mK hc]⟩
 case quo=>obtain ⟨rfl,h0,hc⟩:=hc; exact ⟨_,fun _ _=>rfl,fun w=>by simp [binOp,Op.intDiv,h0,mK hc]⟩
 case rem=>obtain ⟨rfl,h0⟩:=hc; exact ⟨_,fun _ _=>rfl,fun w=>by simp [binOp,Op.intDiv,h0]⟩
 case shl=>exact ⟨_,fun _ _=>rfl,fun w=>by simp [binOp,Op.shift,show ¬ b < 0 by omega]⟩
 case shr=>exact ⟨_,fun _ _=>rfl,fun w=>by simp [binOp,Op.shift,show ¬ b < 0 by omega]⟩
 all_goals (subst hc; exact ⟨_,fun _ _=>rfl,fun w=>by simp [binOp,Op.intBits,Op.intCmp]⟩)
theorem qB {P:Program} {op:BinOp} {a b:ByteArray} {t:TypeId} {s:S} (h:pI op a b=some s) (hc:lX op a b) :
 ∃ v,(∀ γ ro,s.rel γ ro v)/\∀ w,(binOp op t (.string a) (.string b)).run P w=.ok v w:=by
 cases op<;>simp only [pI,aB,reduceCtorEq] at h<;>subst h<;>simp only [lX] at hc
 case add=>
  refine ⟨_,fun _ _=>rfl,fun w=>?_⟩
  have hsz:¬ (((a.size + b.size:Nat):Int) > IntKind.i64.max):=by
   rw [dE,dE]; simp [IntKind.max,IntKind.signed,IntKind.bits]; omega
  simp only [binOp,Op.stringOp,hsz,if_false,Sem.run_pure]
  congr 2
 all_goals exact ⟨_,fun _ _=>rfl,fun w=>by simp [binOp,Op.stringOp,jR]⟩
def dA:Sh->C->C->Option Bool
 | .int _,.vl (.int k a),.vl (.int k' b)=>if k=k' then some (a == b) else none
 | .str,.vl (.string a),.vl (.string b)=>some (bl a == bl b)
 | .bool,.vl (.bool a),.vl (.bool b)=>some (a == b)
 | _,_,_=>none
def sB (cs ds:List C):List (Nat × Sh)->Option Bool
 | []=>some true
 | (off,sh) :: r=>match cs[off]?,ds[off]? with
  | some c,some d=>match dA sh c d,sB cs ds r with
   | some x,some y=>some (x && y)
   | _,_=>none
  | _,_=>none
def C.gi:Option C->Int
 | some (.vl (.int _ n))=>n
 | _=>0
def lJ (xs:List (List C)):List UInt8:=xs.map fun r=>UInt8.ofNat (C.gi (r[0]?)).toNat
def aM (cs:List C) (off:Nat) (vs:List C):List C:=cs.take off ++ vs ++ cs.drop (off + vs.length)
def lZ (fr:Fr):List C->List (Nat × Nat × O)->Option (List C)
 | cs,[]=>some cs
 | cs,(off,_,o) :: r=>match ev fr o with
  | .va a=>lZ fr (aM cs off a.cells) r
  | _=>none
def nU (fr:Fr) (len:Nat):List (Nat × Nat × O)->Prop
 | []=>True
 | (off,n,o) :: r=>(match ev fr o with
  | .va a=>a.ok/\a.cells.length=n/\off + n<=len
  | _=>False)/\nU fr len r
def cZ (fr:Fr) (d:Int):Option O->Option Int
 | none=>some d
 | some o=>match ev fr o with | .va (.c1 (.vl (.int _ i)))=>some i | _=>none
def gH (fr:Fr):List O->Option (List (Bool × List C))
 | []=>some []
 | o :: r=>match ev fr o,gH fr r with
  | .va (.c1 c),some l=>if c.isFn then none else some ((false,[c]) :: l)
  | .va (.gs cs),some l=>if cs.any C.isFn then none else some ((true,cs) :: l)
  | _,_=>none
def eP (fr:Fr):List O->Option (List (List C))
 | []=>some []
 | o :: r=>match ev fr o,eP fr r with
  | .va (.gs cs),some l=>if cs.all C.shut then some (cs :: l) else none
  | _,_=>none
def s0:Bool × List C->A
 | (false,[c])=>.c1 c
 | (_,cs)=>.gs cs
def oN:Value->Value->Bool
 | .int _ a,.int _ b=>a == b
 | .string a,.string b=>bl a == bl b
 | .bool a,.bool b=>a == b
 | _,_=>false
def i4:List Value->Value->Option Nat
 | [],_=>none
 | k :: ks,q=>bif oN q k then some 0 else (i4 ks q).map (· + 1)
def oQ (ks:List Value) (vs:List A) (q:Value):Option A:=(i4 ks q).bind fun i=>vs[i]?
def jW (ks:List Value) (q:Value):List Value:=match i4 ks q with | some _=>ks | none=>ks ++ [q]
def mI (ks:List Value) (vs:List A) (q:Value) (v:A):List A:=match i4 ks q with | some i=>vs.set i v | none=>vs ++ [v]
def BV (z:Value) (ok:Bool) (r:Option A):S:=match r with
 | some a=>bif ok then .tu [a,.c1 (.vl (.bool true))] else .va a
 | none=>bif ok then .tu [A.ofV z,.c1 (.vl (.bool false))] else .va (A.ofV z)
def qv (fr:Fr) (H:Hp):QI->Option S
 | .mv x=>some (ev fr x)
 | .bin op nw x y=>match ev fr x,ev fr y with
  | .va (.c1 (.vl (.int k a))),.va (.c1 (.vl (.int _ b)))=>lS op nw k a b
  | .va (.c1 (.vl (.string a))),.va (.c1 (.vl (.string b)))=>pI op a b
  | _,_=>none
 | .eqB neg x y=>match ev fr x,ev fr y with
  | .va (.c1 (.vl (.bool a))),.va (.c1 (.vl (.bool b)))=>some (bS (bif neg then !(a == b) else a == b))
  | _,_=>none
 | .eqP neg x y=>match ev fr x,ev fr y with
  | .va (.c1 (.pt _ _)),.va (.c1 (.vl (.pointer none)))=>some (bS neg)
  | .va (.c1 (.vl (.pointer a))),.va (.c1 (.vl (.pointer none)))=>some (bS (bif neg then a.isSome else a.isNone))
  | .va (.c1 (.pt n o)),.va (.c1 (.pt m o'))=>if n=m/\o=o' then some (bS (!neg)) else none
  | _,_=>none
 | .eqT neg fs x y=>match ev fr x,ev fr y with
  | .va (.gs cs),.va (.gs ds)=>(sB cs ds fs).map fun b=>bS (bif neg then !b else b)
  | _,_=>none
 | .b2s x=>match ev fr x with
  | .va (.c1 (.vl (.slice none _ _)))=>some (tS (mk []))
  | .va (.c1 (.sl n _))=>match H[n]? with
   | some (.row xs _ _)=>some (tS (mk (lJ xs)))
   | _=>none
  | _=>none
 | .not x=>match ev fr x with
  | .va (.c1 (.vl (.bool b)))=>some (bS (!b))
  | _=>none
 | .neg nw x=>match ev fr x with
  | .va (.c1 (.vl (.int k a)))=>lS .sub nw k 0 a
  | _=>none
 | .cvt k x=>match ev fr x with
  | .va (.c1 (.vl (.int _ a)))=>some (iS k (k.wrap a))
  | _=>none
 | .fa off x=>match ev fr x with
  | .va (.c1 (.pt n o))=>some (.va (.c1 (.pt n (o + off))))
  | .va (.c1 (.qt n len sz i j))=>some (.va (.c1 (.qt n len sz i (j + off))))
  | .va (.c1 (.fp r j))=>some (.va (.c1 (.fp r (j + off))))
  | _=>none
 | .fld1 off x=>match ev fr x with
  | .va (.gs cs)=>(cs[off]?).map fun c=>.va (.c1 c)
  | _=>none
 | .fldn off n x=>match ev fr x with
  | .va (.gs cs)=>some (.va (.gs ((cs.drop off).take n)))
  | _=>none
 | .bd zero parts=>(lZ fr (zero.map C.vl) parts).map fun cs=>.va (.gs cs)
 | .ss x lo hi=>match ev fr x with
  | .va (.c1 (.vl (.string s)))=>match cZ fr 0 lo,cZ fr (bl s).length hi with
   | some l,some h=>some (tS (mk (((bl s).take h.toNat).drop l.toNat)))
   | _,_=>none
  | _=>none
 | .sf _ x lo hi=>match ev fr x with
  | .va (.c1 (.fz xs))=>match cZ fr 0 lo,cZ fr xs.length hi with
   | some l,some h=>some (.va (.c1 (.fz ((xs.take h.toNat).drop l.toNat))))
   | _,_=>none
  | _=>none
 | .lnS x=>match ev fr x with
  | .va (.c1 (.vl (.string s)))=>some (iS .i64 (bl s).length)
  | _=>none
 | .lnL x=>match ev fr x with
  | .va (.c1 (.sl _ n))=>some (iS .i64 n)
  | .va (.c1 (.fz xs))=>some (iS .i64 xs.length)
  | .va (.c1 (.vl (.slice _ n _)))=>some (iS .i64 n)
  | _=>none
 | .ex x i=>match ev fr x with
  | .tu l=>(l[i]?).map fun a=>.va a
  | _=>none
 | .nc x=>match ev fr x with
  | .va (.c1 (.pt n o))=>some (.va (.c1 (.pt n o)))
  | .va (.c1 (.qt n len sz i j))=>some (.va (.c1 (.qt n len sz i j)))
  | .va (.c1 (.fp r j))=>some (.va (.c1 (.fp r j)))
  | .va (.c1 (.fn f ns))=>some (.va (.c1 (.fn f ns)))
  | _=>none
 | .cu x=>match ev fr x with
  | .va (.c1 (.pt n o))=>some (.va (.c1 (.pt n o)))
  | _=>none
 | .c4u _ _ x=>match ev fr x with
  | .va (.c1 (.pt n o))=>some (.va (.c1 (.pt n o)))
  | _=>none
 | .usd x=>match ev fr x with
  | .va (.c1 (.sl n len))=>some (.va (.c1 (.dp n len)))
  | _=>none
 | .mx b x y=>match ev fr x,ev fr y with
  | .va (.c1 (.vl (.int k a))),.va (.c1 (.vl (.int _ c)))=>some (iS k (bif b then max a c else min a c))
  | _,_=>none
 | .ixa _ x i=>match ev fr x,ev fr i with
  | .va (.gs cs),.va (.c1 (.vl (.int _ k)))=>(cs[k.toNat]?).map fun c=>.va (.c1 c)
  | _,_=>none
 | .mf f xs=>(gH fr xs).map fun l=>.va (.c1 (.fn f l))
 | .mh f xs=>(eP fr xs).map fun l=>.va (.c1 (.fm f l))
def dK (H:Hp) (n len sz:Nat):Prop:=
 match H[n]? with
 | some (.row xs _ sz')=>xs.length=len/\sz'=sz
 | some (.rowx xs _ sz')=>xs.length=len/\sz'=sz
 | _=>False
def qc (fr:Fr) (H:Hp):QI->Prop
 | .bin op nw x y=>match ev fr x,ev fr y with
  | .va (.c1 (.vl (.int k a))),.va (.c1 (.vl (.int k' b)))=>lY op nw k k' a b
  | .va (.c1 (.vl (.string a))),.va (.c1 (.vl (.string b)))=>lX op a b
  | _,_=>False
 | .neg nw x=>match ev fr x with
  | .va (.c1 (.vl (.int k a)))=>nw=true->inr k (0 - a)
  | _=>False
 | .b2s x=>match ev fr x with
  | .va (.c1 (.vl (.slice none _ _)))=>True
  | .va (.c1 (.sl n len))=>match H[n]? with
   | some (.row xs _ sz)=>xs.length=len/\sz=1/\∀ r ∈ xs,r=[.vl (.int .u8 (C.gi (r[0]?)))]
   | _=>False
  | _=>False
 | .fa _ x=>match ev fr x with
  | .va (.c1 (.qt n len sz _ _))=>dK H n len sz
  | _=>True
 | .nc x=>match ev fr x with
  | .va (.c1 (.qt n len sz _ _))=>dK H n len sz
  | _=>True
 | .cu x=>match ev fr x with
  | .va (.c1 (.pt n o))=>match H[n]? with
   | some (.cells cs _)=>o < cs.length
   | _=>False
  | _=>False
 | .c4u u k x=>match ev fr x with
  | .va (.c1 (.pt n o))=>match H[n]? with
   | some (.cells cs T)=>o=0/\T=u/\cs.length=k
   | _=>False
  | _=>False
 | .usd x=>match ev fr x with
  | .va (.c1 (.sl n len))=>match H[n]? with
   | some (.row xs _ _)=>xs.length=len
   | _=>False
  | _=>False
 | .lnL x=>match ev fr x with
  | .va (.c1 (.sl n len))=>match H[n]? with
   | some (.row xs _ _)=>xs.length=len
   | some (.rowx xs _ _)=>xs.length=len
   | _=>False
  | _=>True
 | .fldn off n x=>match ev fr x with
  | .va (.gs cs)=>off + n<=cs.length
  | _=>False
 | .bd zero parts=>nU fr zero.length parts
 | .ixa len _ i=>match ev fr i with
  | .va (.c1 (.vl (.int _ k)))=>0<=k/\k < len
  | _=>False
 | .ss x lo hi=>match ev fr x with
  | .va (.c1 (.vl (.string s)))=>match cZ fr 0 lo,cZ fr (bl s).length hi with
   | some l,some h=>0<=l/\l<=h/\h<=(bl s).length
   | _,_=>False
  | _=>False
 | .sf sz x lo hi=>match ev fr x with
  | .va (.c1 (.fz xs))=>match cZ fr 0 lo,cZ fr xs.length hi with
   | some l,some h=>(0<=l/\l<=h/\h<=xs.length)/\0 < sz/\∀ r ∈ xs,r.length=sz
   | _,_=>False
  | _=>False
 | _=>True
def vL (fr:Fr) (H:Hp) (i:LI) (K:S->Prop):Prop:=
 match i with
 | .ia sz x i=>match ev fr x,ev fr i with
  | .va (.c1 (.sl n len)),.va (.c1 (.vl (.int _ k)))=>((0<=k/\k < len)/\dK H n len sz)/\K (.va (.c1 (.qt n len sz k.toNat 0)))
  | .va (.c1 (.fz xs)),.va (.c1 (.vl (.int _ k)))=>((0<=k/\k < xs.length)/\∀ r,xs[k.toNat]? = some r->r.length=sz)/\∀ r,xs[k.toNat]? = some r->K (.va (.c1 (.fp r 0)))
  | _,_=>False
 | .ld1 x=>match ev fr x with
  | .va (.c1 (.pt n off))=>(match H[n]? with
   | some (.cells cs _)=>(match cs[off]? with | some c=>K (.va (.c1 c)) | none=>False)
   | _=>False)
  | .va (.c1 (.qt n len sz i j))=>(match H[n]? with
   | some (.row xs _ sz')=>(xs.length=len/\sz'=sz/\i < xs.length)/\∀ r,xs[i]? = some r->(match r[j]? with | some c=>K (.va (.c1 c)) | none=>False)
   | some (.rowx xs _ sz')=>(xs.length=len/\sz'=sz/\i < xs.length)/\∀ r,xs[i]? = some r->(match r[j]? with | some c=>K (.va (.c1 c)) | none=>False)
   | _=>False)
  | .va (.c1 (.fp r j))=>(match r[j]? with | some c=>K (.va (.c1 c)) | none=>False)
  | _=>False
 | .ldn n x=>match ev fr x with
  | .va (.c1 (.pt m off))=>(match H[m]? with
   | some (.cells cs _)=>off + n<=cs.length/\K (.va (.gs ((cs.drop off).take n)))
   | _=>False)
  | .va (.c1 (.qt m len sz i j))=>(match H[m]? with
   | some (.row xs _ sz')=>(xs.length=len/\sz'=sz/\i < xs.length)/\∀ r,xs[i]? = some r->j + n<=r.length/\K (.va (.gs ((r.drop j).take n)))
   | some (.rowx xs _ sz')=>(xs.length=len/\sz'=sz/\i < xs.length)/\∀ r,xs[i]? = some r->j + n<=r.length/\K (.va (.gs ((r.drop j).take n)))
   | _=>False)
  | .va (.c1 (.fp r j))=>j + n<=r.length/\K (.va (.gs ((r.drop j).take n)))
  | _=>False
 | .lk kd z ok x k=>match ev fr x,ev fr k with
  | .va (.c1 (.mp n)),.va (.c1 (.vl q))=>(match H[n]? with
   | some (.map kd' ks vs)=>(kd'=kd/\MapKept.IsKey kd q)/\K (BV z ok (oQ ks vs q))
   | _=>False)
  | _,_=>False
 | .lm x=>match ev fr x with
  | .va (.c1 (.mp n))=>(match H[n]? with
   | some (.map _ ks _)=>K (iS .i64 ks.length)
   | _=>False)
  | _=>False
def xB (P:Program) (t:TypeId):Option Sh:=
 match P.underlying t with
 | some (.int k)=>some (.int k)
 | some .bool=>some .bool
 | some .string=>some .str
 | _=>none
def aJ (P:Program) (t:TypeId):Option Bool:=
 match P.underlying t with
 | some (.struct _)=>some true
 | some (.array _ _)=>some true
 | some _=>some false
 | none=>none
def aF (P:Program) (t:TypeId):Option Nat:=(P.info? t).map (·.size)
def nQ (P:Program) (fs:Array Field):List (Nat × Operand)->Option (List (Nat × Nat × O))
 | []=>some []
 | (i,x) :: r=>match fs[i]? with
  | some f=>match aF P f.type,nQ P fs r with
   | some n,some l=>some ((f.offset,n,aA x) :: l)
   | _,_=>none
  | none=>none
def iF (P:Program) (fs:List Field):Option (List (Nat × Nat)):=fs.mapM (fun f=>(P.info? f.type).map fun i=>(f.offset,i.size))
def cM (P:Program):List Field->Option (List (Nat × Sh))
 | []=>some []
 | f :: r=>match xB P f.type,aJ P f.type,cM P r with
  | some sh,some false,some l=>if !(f.name == "_") then some ((f.offset,sh) :: l) else none
  | _,_,_=>none
def s9 (len:Nat) (e:TypeId) (n:Nat):Array Field:=(Array.range len).map fun i=>⟨"",e,i * n,false,"","",0⟩
def sD (P:Program) (c:Call):Option QI:=
 match c.callee,c.args.toList,c.argTypes.toList with
 | .builtin .len,[x],[t]=>match P.underlying t with
  | some .string=>some (.lnS (aA x))
  | some (.slice _)=>some (.lnL (aA x))
  | _=>none
 | .builtin .max,[x,y],[t,_]=>match P.underlying t with
  | some (.int _)=>some (.mx true (aA x) (aA y))
  | _=>none
 | .builtin .min,[x,y],[t,_]=>match P.underlying t with
  | some (.int _)=>some (.mx false (aA x) (aA y))
  | _=>none
 | .builtin .unsafeSliceData,[x],[t]=>match P.underlying t with
  | some (.slice _)=>some (.usd (aA x))
  | _=>none
 | .value (.func f),[x],[_]=>match P.funcs[f]? with
  | some fn=>if fn.name == "internal/abi.NoEscape" && fn.origin == "" && fn.body.isNone then some (.mv (aA x)) else none
  | none=>none
 | _,_,_=>none
def qC (P:Program) (nw:Bool) (op:Op):Option QI:=
 match op with
 | .move x=>some (.mv (aA x))
 | .assign x=>some (.mv (aA x))
 | .binOp op t x y _=>match P.underlying t with
  | some (.int _)=>some (.bin op nw (aA x) (aA y))
  | some .string=>some (.bin op nw (aA x) (aA y))
  | some .bool=>match op with
   | .eql=>some (.eqB false (aA x) (aA y))
   | .neq=>some (.eqB true (aA x) (aA y))
   | _=>none
  | some (.pointer e)=>if (P.info? e).isNone then none else match op with
   | .eql=>some (.eqP false (aA x) (aA y))
   | .neq=>some (.eqP true (aA x) (aA y))
   | _=>none
  | some (.struct fs)=>if !P.stoodInHeld t && !P.eqGuardType P.depth t then match cM P fs.toList,op with
   | some l,.eql=>some (.eqT false l (aA x) (aA y))
   | some l,.neq=>some (.eqT true l (aA x) (aA y))
   | _,_=>none
   else none
  | _=>none
 | .unOp .not _ x=>some (.not (aA x))
 | .unOp .neg _ x=>some (.neg false (aA x))
 | .convert src dst x=>match P.underlying src,P.underlying dst with
  | some (.int _),some (.int k)=>some (.cvt k (aA x))
  | some (.pointer e),some .unsafePointer=>match aF P e with
   | some (_ + 1)=>some (.cu (aA x))
   | _=>none
  | some .unsafePointer,some (.pointer u)=>match aF P u with
   | some k=>if liesAt P P.depth u (k / P.cellsOf u) 0 u 1 then some (.c4u u k (aA x)) else none
   | none=>none
  | some (.slice e),some .string=>match P.underlying e with
   | some (.int .u8)=>some (.b2s (aA x))
   | _=>none
  | _,_=>none
 | .fieldAddr s x f=>match P.underlying s with
  | some (.struct fs)=>match fs[f]? with
   | some f=>match aF P f.type with
    | some (_ + 1)=>some (.fa f.offset (aA x))
    | _=>none
   | none=>none
  | _=>none
 | .field s x f=>match P.underlying s with
  | some (.struct fs)=>match fs[f]? with
   | some f=>match aJ P f.type,aF P f.type with
    | some true,some n=>some (.fldn f.offset n (aA x))
    | some false,some _=>some (.fld1 f.offset (aA x))
    | _,_=>none
   | none=>none
  | _=>none
 | .build t parts=>match P.underlying t,P.info? t with
  | some (.struct fs),some i=>match i.zero,iF P fs.toList with
   | some z,some _=>(nQ P fs parts.toList).map fun l=>.bd z.cells.toList l
   | _,_=>none
  | some (.array len e),some i=>match i.zero,aF P e with
   | some z,some n=>(nQ P (s9 len e n) parts.toList).map fun l=>.bd z.cells.toList l
   | _,_=>none
  | _,_=>none
 | .index t x i=>match P.underlying t with
  | some (.array len e)=>match aJ P e,aF P e with
   | some false,some 1=>some (.ixa len (aA x) (aA i))
   | _,_=>none
  | _=>none
 | .slice t x lo hi mx=>match P.underlying t,mx with
  | some .string,none=>some (.ss (aA x) (lo.map aA) (hi.map aA))
  | some (.slice e),none=>match aF P e with
   | some n=>some (.sf n (aA x) (lo.map aA) (hi.map aA))
   | none=>none
  | _,_=>none
 | .call c=>sD P c
 | .extract x i=>some (.ex (aA x) i)
 | .nilCheck x=>some (.nc (aA x))
 | .makeFunc fn first cs=>match fn with
  | .func f=>if first.isEmpty then some (.mf f (cs.toList.map aA)) else if cs.isEmpty then some (.mh f (first.toList.map aA)) else none
  | _=>none
 | _=>none
def xP (P:Program) (op:Op):Option LI:=
 match op with
 | .load t x=>match aJ P t,aF P t with
  | some true,some n=>some (.ldn n (aA x))
  | some false,some _=>some (.ld1 (aA x))
  | _,_=>none
 | .indexAddr t x i=>match P.underlying t with
  | some (.slice e)=>match aF P e with
   | some n=>some (.ia n (aA x) (aA i))
   | none=>none
  | _=>none
 | .lookup t x i ok=>match P.underlying t with
  | some (.map k e)=>match P.underlying k,(P.info? e).map (·.zero) with
   | some kd,some (some z)=>some (.lk kd z ok (aA x) (aA i))
   | _,_=>none
  | _=>none
 | .call c=>match c.callee,c.args.toList,c.argTypes.toList with
  | .builtin .len,[x],[t]=>match P.underlying t with
   | some (.map _ _)=>some (.lm (aA x))
   | _=>none
  | _,_,_=>none
 | _=>none
def xA (P:Program) (op:Op):Option (O × O):=
 match op with
 | .index t x i=>match P.underlying t with
  | some .string=>some (aA x,aA i)
  | _=>none
 | _=>none
def QOk (P:Program) (o:Oper) (E:Es) (ro:RO) (a:Act) (s:S):Prop:=
 ∃ v,s.rel (gm E) ro v/\∀ X w,Rel X E ro w->(execOp a.eval o).run P w=.ok (.value v) w
theorem fX (off:Nat):∀ (vs:List Value) (k:Nat) (cur:List Value),off + k + vs.length<=cur.length->
 ((vs.zipIdx k).foldl (fun (cs:Array Value) (x:Value × Nat)=>cs.setIfInBounds (off + x.2) x.1) cur.toArray)=(cur.take (off + k) ++ vs ++ cur.drop (off + k + vs.length)).toArray:=by
 intro vs
 induction vs with
 | nil=>intro k cur _; simp
 | cons v vs ih=>
  intro k cur hk
  simp only [List.length_cons] at hk
  simp only [List.zipIdx_cons,List.foldl_cons,List.setIfInBounds_toArray]
  rw [ih (k + 1) _ (by simp; omega)]
  congr 1
  have hp:off + k < cur.length:=by omega
  rw [List.set_eq_take_append_cons_drop,if_pos hp]
  have e1:(cur.take (off + k)).length=off + k:=by simp; omega
  have t1:List.take (off + (k + 1)) (cur.take (off + k) ++ v :: cur.drop (off + k + 1))=cur.take (off + k) ++ [v]:=by
   rw [List.take_append,e1,List.take_of_length_le (by omega),show off + (k + 1) - (off + k)=1 by omega]; simp
  have t2:List.drop (off + (k + 1) + vs.length) (cur.take (off + k) ++ v :: cur.drop (off + k + 1))=cur.drop (off + k + (vs.length + 1)):=by
   rw [List.drop_append,e1,List.drop_of_length_le (by omega),show off + (k + 1) + vs.length - (off + k)=vs.length + 1 by omega]
   simp only [List.nil_append,List.drop_succ_cons,List.drop_drop]
   congr 1; omega
  rw [t1,t2]
  simp
theorem dU {xs:List (List C)} {sz:Nat} (h:∀ x ∈ xs,x.length=sz):∀ {i j:Nat},i < xs.length->j < sz->xs.flatten[i * sz + j]? = (xs[i]?).bind (·[j]?):=by
 induction xs with
 | nil=>intro i j hi; simp at hi
 | cons x r ih=>
  intro i j hi hj
  have hx:x.length=sz:=h x (by simp)
  cases i with
  | zero=>simp [List.getElem?_append,hx,hj]
  | succ i=>
   simp only [List.flatten_cons,List.getElem?_append,hx]
   rw [if_neg (by rw [Nat.succ_mul]; omega),show (i + 1) * sz + j - sz=i * sz + j by rw [Nat.succ_mul]; omega]
   simpa using ih (fun y hy=>h y (by simp [hy])) (by simpa using hi) hj
section
variable {P:Program} {o:Oper} {N:Nat} {fr:Fr} {a:Act} {E:Es} {ro:RO} {s:S} {nw:Bool} {X0:Ctx} {w0:World}
theorem z9 (hf:FRel N (gm E) ro fr a) {x:Operand} (ho:o.op=.move x\/o.op=.assign x):QOk P o E ro a (ev fr (aA x)):=
 ⟨a.eval x,aC hf x,fun X w _=>by rcases ho with ho | ho<;>simp [execOp,ho]⟩
theorem AB (hf:FRel N (gm E) ro fr a) {op:BinOp} {t t':TypeId} {x y:Operand} (ho:o.op=.binOp op t x y t') {k k':IntKind} {m n:Int}
 (hx:ev fr (aA x)=iS k m) (hy:ev fr (aA y)=iS k' n) (h:lS op nw k m n=some s) (hc:lY op nw k k' m n):QOk P o E ro a s:=by
 have h1:=aC hf x; have h2:=aC hf y
 rw [hx] at h1; rw [hy] at h2
 have h1':a.eval x=.int k m:=h1
 have h2':a.eval y=.int k' n:=h2
 obtain ⟨v,hv,hr⟩:=p7 (P:=P) (t:=t) h hc
 exact ⟨v,hv _ _,fun X w _=>by simp only [execOp,ho,h1',h2']; simp [hr,eqGuard]⟩
theorem z7 (hf:FRel N (gm E) ro fr a) {op:BinOp} {t t':TypeId} {x y:Operand} (ho:o.op=.binOp op t x y t') {m n:ByteArray}
 (hx:ev fr (aA x)=tS m) (hy:ev fr (aA y)=tS n) (h:pI op m n=some s) (hc:lX op m n):QOk P o E ro a s:=by
 have h1:=aC hf x; have h2:=aC hf y
 rw [hx] at h1; rw [hy] at h2
 have h1':a.eval x=.string m:=h1
 have h2':a.eval y=.string n:=h2
 obtain ⟨v,hv,hr⟩:=qB (P:=P) (t:=t) h hc
 exact ⟨v,hv _ _,fun X w _=>by simp only [execOp,ho,h1',h2']; simp [hr,eqGuard]⟩
theorem xG (hf:FRel N (gm E) ro fr a) {neg:Bool} {t t':TypeId} {x y:Operand} (ho:o.op=.binOp (if neg then .neq else .eql) t x y t') (ht:P.underlying t=some .bool) {m n:Bool}
 (hx:ev fr (aA x)=bS m) (hy:ev fr (aA y)=bS n):QOk P o E ro a (bS (bif neg then !(m == n) else m == n)):=by
 have h1:=aC hf x; have h2:=aC hf y
 rw [hx] at h1; rw [hy] at h2
 have h1':a.eval x=.bool m:=h1
 have h2':a.eval y=.bool n:=h2
 refine ⟨_,rfl,fun X w _=>?_⟩
 have he:(Op.equal t (.bool m) (.bool n)).run P w=.ok (m == n) w:=by
  rw [Op.equal,show Op.maxDepth=9999 + 1 from rfl,Op.equalIn]
  simp [underlying,ht]
 cases neg<;>simp only [execOp,ho,h1',h2']<;>simp [eqGuard,binOp,he]
theorem AN (hf:FRel N (gm E) ro fr a) {t:TypeId} {x:Operand} (ho:o.op=.unOp .not t x) {m:Bool} (hx:ev fr (aA x)=bS m):QOk P o E ro a (bS (!m)):=by
 have h1:=aC hf x
 rw [hx] at h1
 have h1':a.eval x=.bool m:=h1
 exact ⟨_,rfl,fun X w _=>by simp [execOp,ho,h1',Op.unary]⟩
theorem A1 (hf:FRel N (gm E) ro fr a) {t:TypeId} {x:Operand} (ho:o.op=.unOp .neg t x) {k:IntKind} {m:Int} (hx:ev fr (aA x)=iS k m) (hc:nw=true->inr k (0 - m)) :
 QOk P o E ro a (iS k (wr k nw (0 - m))):=by
 have h1:=aC hf x
 rw [hx] at h1
 have h1':a.eval x=.int k m:=h1
 exact ⟨_,rfl,fun X w _=>by rw [mK hc]; simp [execOp,ho,h1',Op.unary,Op.intArith]⟩
theorem BA (hf:FRel N (gm E) ro fr a) {t u:TypeId} {x:Operand} (ho:o.op=.convert t u x) {k0 k' k:IntKind} (ht:P.underlying t=some (.int k0)) (hu:P.underlying u=some (.int k')) {m:Int} (hx:ev fr (aA x)=iS k m) :
 QOk P o E ro a (iS k' (k'.wrap m)):=by
 have h1:=aC hf x
 rw [hx] at h1
 have h1':a.eval x=.int k m:=h1
 exact ⟨_,rfl,fun X w _=>by simp [execOp,ho,h1',convert,underlying,ht,hu,Conv.intToInt]⟩
theorem CG (hf:FRel N (gm E) ro fr a) {i:Nat} {x:Operand} (ho:o.op=.extract x i) {l:List A} (hx:ev fr (aA x)=.tu l) {y:A} (hy:l[i]? = some y):QOk P o E ro a (.va y):=by
 have h1:=aC hf x
 rw [hx] at h1
 obtain ⟨vs,h1',h2⟩:=h1
 obtain ⟨v,hv,hr⟩:=h2.get hy
 exact ⟨v,hr,fun X w _=>by simp [execOp,ho,h1',Instr.extract,hv]⟩
theorem AQ (hf:FRel N (gm E) ro fr a) {t:TypeId} {x:Operand} (ho:o.op=.call { callee:=.builtin .len,args:=#[x],argTypes:=#[t] })
 (ht:P.underlying t=some .string) (hs:qv fr (hp E) (.lnS (aA x))=some s):QOk P o E ro a s:=by
 have h1:=aC hf x
 simp only [qv] at hs
 split at hs<;>simp only [aB,reduceCtorEq] at hs
 rename_i l he
 subst hs
 rw [he] at h1
 have h1':a.eval x=.string l:=h1
 refine ⟨_,rfl,fun X w _=>?_⟩
 simp [execOp,ho,h1',resolve,invoke,builtin,Builtin.len_,underlying,ht,goInt,dE]
theorem A5 (hf:FRel N (gm E) ro fr a) (hr0:Rel X0 E ro w0) {t e:TypeId} {x:Operand} (ho:o.op=.call { callee:=.builtin .len,args:=#[x],argTypes:=#[t] })
 (ht:P.underlying t=some (.slice e)) (hs:qv fr (hp E) (.lnL (aA x))=some s) (hc:qc fr (hp E) (.lnL (aA x))):QOk P o E ro a s:=by
 have h1:=aC hf x
 simp only [qv] at hs
 simp only [qc] at hc
 have key:∀ {u:Option Addr} {n c:Nat},a.eval x=.slice u n c->QOk P o E ro a (iS .i64 n):=fun {u n c} h=>by
  refine ⟨_,rfl,fun X w _=>?_⟩
  simp [execOp,ho,h,resolve,invoke,builtin,Builtin.len_,underlying,ht,goInt]
 split at hs<;>simp only [aB,reduceCtorEq] at hs
 · rename_i n len he
   subst hs
   rw [he] at h1 hc
   obtain ⟨g,h2,h3,h4,⟨u,m,c,h5⟩,h6⟩:=h1
   simp only at hc
   split at hc
   · rename_i xs T sz hH
     obtain ⟨g',hE⟩:=aR hH
     obtain ⟨_,hl,_⟩:=hr0.own n g' _ hE
     have:g'=g:=by have:=aQ hE; rw [h2] at this; exact (bB this).symm
     subst this
     exact key (h6 (by omega))
   · rename_i xs T sz hH
     obtain ⟨g',hE⟩:=aR hH
     obtain ⟨_,hl,_⟩:=hr0.own n g' _ hE
     have:g'=g:=by have:=aQ hE; rw [h2] at this; exact (bB this).symm
     subst this
     exact key (h6 (by omega))
   · exact hc.elim
 · rename_i xs he
   subst hs
   rw [he] at h1
   have h1':FzR ro xs (a.eval x):=h1
   generalize hv:a.eval x=v at h1'
   cases h1'
   exact key hv
 · rename_i u n c he
   subst hs
   rw [he] at h1
   have h1':a.eval x=.slice u n c:=h1
   exact key h1'
theorem aE {t:TypeId} {n:Nat} (h:aF P t=some n) (w:World):(sizeOf t).run P w=.ok n w:=by
 unfold aF at h
 cases hi:P.info? t with
 | none=>simp [hi] at h
 | some i=>simp [hi] at h; simp [sizeOf,typeInfo,hi,h]
theorem aN {t:TypeId} {b:Bool} (h:aJ P t=some b) (w:World):(isAgg t).run P w=.ok b w:=by
 unfold aJ at h
 cases hi:P.underlying t with
 | none=>simp [hi] at h
 | some d=>cases d<;>simp [hi] at h<;>subst h<;>simp [isAgg,underlying,hi]
theorem bP (b k n:Nat):(⟨b,k,none⟩:Addr).add n=⟨b,k + n,none⟩:=by
 unfold Addr.add; split
 · simp_all
 · rfl
theorem e6 (hr0:Rel X0 E ro w0) {n len sz i j:Nat} {v:Value} (h:C.rel (gm E) ro (.qt n len sz i j) v) (hH:dK (hp E) n len sz):∃ g b blk,E[n]? = some (g,blk)/\g.ob=some b/\v=.pointer (some ⟨b,i * sz + j,none⟩):=by
 obtain ⟨g,h2,h3,h4,h5,h6⟩:=h
 unfold dK at hH
 split at hH
 · rename_i xs T sz' hH'
   obtain ⟨hl,rfl⟩:=hH
   obtain ⟨g',hE⟩:=aR hH'
   obtain ⟨_,hl2,_⟩:=hr0.own n g' _ hE
   have:g'=g:=by have:=aQ hE; rw [h2] at this; exact (bB this).symm
   subst this
   obtain ⟨b,hb,hv⟩:=h6 (by omega)
   exact ⟨g',b,_,hE,hb,hv⟩
 · rename_i xs T sz' hH'
   obtain ⟨hl,rfl⟩:=hH
   obtain ⟨g',hE⟩:=aR hH'
   obtain ⟨_,hl2,_⟩:=hr0.own n g' _ hE
   have:g'=g:=by have:=aQ hE; rw [h2] at this; exact (bB this).symm
   subst this
   obtain ⟨b,hb,hv⟩:=h6 (by omega)
   exact ⟨g',b,_,hE,hb,hv⟩
 · exact hH.elim
theorem CN (hf:FRel N (gm E) ro fr a) (hr0:Rel X0 E ro w0) {t:TypeId} {x:Operand} {f:Nat} (ho:o.op=.fieldAddr t x f) {fs:Array Field} (ht:P.underlying t=some (.struct fs)) {fd:Field} (hfd:fs[f]? = some fd)
 {k:Nat} (hk:aF P fd.type=some (k + 1)) (hs:qv fr (hp E) (.fa fd.offset (aA x))=some s) (hc:qc fr (hp E) (.fa fd.offset (aA x))):QOk P o E ro a s:=by
 have h1:=aC hf x
 simp only [qv] at hs
 simp only [qc] at hc
 have key:∀ {b q:Nat},a.eval x=.pointer (some ⟨b,q,none⟩)->∀ X w,Rel X E ro w->(execOp a.eval o).run P w=.ok (.value (.pointer (some ⟨b,q + fd.offset,none⟩))) w:=fun {b q} h X w _=>by
  simp [execOp,ho,h,Instr.fieldAt,underlying,ht,hfd,Instr.sureAddr,fieldPlace,aE hk,bP]
 split at hs<;>simp only [aB,reduceCtorEq] at hs<;>rename_i he<;>subst hs<;>rw [he] at h1
 · obtain ⟨g,b,h2,h3,h4,h5⟩:=h1
   exact ⟨_,⟨g,b,h2,h3,h4,rfl⟩,key h5⟩
 · rename_i n len sz i j
   rw [he] at hc
   obtain ⟨g,b,blk,hE,hb,hv⟩:=e6 hr0 h1 hc
   obtain ⟨g',h2,h3,h4,h5,h6⟩:=h1
   have:g'=g:=by have:=aQ hE; rw [h2] at this; exact (bB this)
   subst this
   exact ⟨_,⟨g',h2,h3,h4,⟨_,rfl⟩,fun _=>⟨b,hb,by rw [<-Nat.add_assoc]⟩⟩,key hv⟩
 · obtain ⟨b,off,h2,h3⟩:=h1
   exact ⟨_,⟨b,off,by rw [<-Nat.add_assoc],h3⟩,key h2⟩
theorem z4 (hf:FRel N (gm E) ro fr a) {t:TypeId} {x:Operand} {f:Nat} (ho:o.op=.field t x f) {fs:Array Field} (ht:P.underlying t=some (.struct fs)) {fd:Field} (hfd:fs[f]? = some fd)
 (hk:aJ P fd.type=some false) (hs:qv fr (hp E) (.fld1 fd.offset (aA x))=some s):QOk P o E ro a s:=by
 have h1:=aC hf x
 simp only [qv] at hs
 split at hs<;>simp only [Option.map_eq_some_iff,reduceCtorEq] at hs
 rename_i cs he
 obtain ⟨c,hcs,rfl⟩:=hs
 rw [he] at h1
 obtain ⟨vs,h1',h2⟩:=h1
 obtain ⟨v,hv,hr⟩:=h2.get hcs
 refine ⟨v,hr,fun X w _=>?_⟩
 simp [execOp,ho,h1',Instr.field,underlying,ht,hfd,part,aN hk,asAgg,hv]
theorem y7 (hf:FRel N (gm E) ro fr a) {t:TypeId} {x:Operand} {f:Nat} (ho:o.op=.field t x f) {fs:Array Field} (ht:P.underlying t=some (.struct fs)) {fd:Field} (hfd:fs[f]? = some fd)
 (hk:aJ P fd.type=some true) {n:Nat} (hz:aF P fd.type=some n) (hs:qv fr (hp E) (.fldn fd.offset n (aA x))=some s):QOk P o E ro a s:=by
 have h1:=aC hf x
 simp only [qv] at hs
 split at hs<;>simp only [aB,reduceCtorEq] at hs
 rename_i cs he
 subst hs
 rw [he] at h1
 obtain ⟨vs,h1',h2⟩:=h1
 refine ⟨.agg ((vs.drop fd.offset).take n).toArray,⟨_,rfl,(h2.drop _).take _⟩,fun X w _=>?_⟩
 simp [execOp,ho,h1',Instr.field,underlying,ht,hfd,part,aN hk,aE hz,asAgg]
theorem B5 (hf:FRel N (gm E) ro fr a) (hr0:Rel X0 E ro w0) {x:Operand} (ho:o.op=.nilCheck x) (hs:qv fr (hp E) (.nc (aA x))=some s) (hc:qc fr (hp E) (.nc (aA x))):QOk P o E ro a s:=by
 have h1:=aC hf x
 simp only [qv] at hs
 simp only [qc] at hc
 split at hs<;>simp only [aB,reduceCtorEq] at hs<;>rename_i he<;>subst hs<;>rw [he] at h1
 · refine ⟨_,h1,fun X w _=>?_⟩
   obtain ⟨g,b,h2,h3,h4,h5⟩:=h1
   simp [execOp,ho,h5]
 · refine ⟨_,h1,fun X w _=>?_⟩
   rw [he] at hc
   obtain ⟨g,b,blk,hE,hb,hv⟩:=e6 hr0 h1 hc
   simp [execOp,ho,hv]
 · refine ⟨_,h1,fun X w _=>?_⟩
   obtain ⟨b,off,h2,h3⟩:=h1
   simp [execOp,ho,h2]
 · refine ⟨_,h1,fun X w _=>?_⟩
   obtain ⟨bs,h2,h3⟩:=h1
   simp [execOp,ho,h2]
theorem xT (hf:FRel N (gm E) ro fr a) {neg:Bool} {t t' e:TypeId} {x y:Operand} (ho:o.op=.binOp (if neg then .neq else .eql) t x y t') (ht:P.underlying t=some (.pointer e)) (hinf:(P.info? e).isNone=false)
 (hs:qv fr (hp E) (.eqP neg (aA x) (aA y))=some s):QOk P o E ro a s:=by
 have h1:=aC hf x; have h2:=aC hf y
 have he:∀ (p:Option Addr) (w:World),(Op.equal t (.pointer p) (.pointer none)).run P w=.ok p.isNone w:=fun p w=>by
  rw [Op.equal,show Op.maxDepth=9999 + 1 from rfl,Op.equalIn]
  cases p<;>simp [underlying,ht]
 have he2:∀ (p:Addr) (w:World),(Op.equal t (.pointer (some p)) (.pointer (some p))).run P w=.ok true w:=fun p w=>by
  have key:∀ d:Nat,(Op.equalIn (d + 1) t (.pointer (some p)) (.pointer (some p))).run P w=.ok true w:=fun d=>by
   cases hj:P.info? e with
   | none=>simp [hj] at hinf
   | some j=>simp [Op.equalIn,run_underlying ht,sizeOf,typeInfo,hj,run_sameAddr_same]
  simp [Op.equal,Op.maxDepth,key 9999]
 simp only [qv] at hs
 split at hs<;>try simp only [aB,reduceCtorEq] at hs
 · rename_i hex hey
   subst hs
   rw [hex] at h1; rw [hey] at h2
   obtain ⟨g,b,_,_,_,h1'⟩:=h1
   have h2':a.eval y=.pointer none:=h2
   exact ⟨_,rfl,fun X w _=>by cases neg<;>simp [execOp,ho,h1',h2',eqGuard,binOp,he]⟩
 · rename_i p hex hey
   subst hs
   rw [hex] at h1; rw [hey] at h2
   have h1':a.eval x=.pointer p:=h1
   have h2':a.eval y=.pointer none:=h2
   exact ⟨_,rfl,fun X w _=>by cases neg<;>simp [execOp,ho,h1',h2',eqGuard,binOp,he]⟩
 · rename_i n o1 m o2 hex hey
   split at hs<;>simp only [aB,reduceCtorEq] at hs
   rename_i hnm
   obtain ⟨rfl,rfl⟩:=hnm
   subst hs
   rw [hex] at h1; rw [hey] at h2
   obtain ⟨g,b,k1,_,k3,h1'⟩:=h1
   obtain ⟨g2,b2,l1,_,l3,h2'⟩:=h2
   rw [k1] at l1
   simp only [aB] at l1
   subst l1
   rw [k3] at l3
   simp only [aB] at l3
   subst l3
   exact ⟨_,rfl,fun X w _=>by cases neg<;>simp [execOp,ho,h1',h2',eqGuard,binOp,he2]⟩
theorem kA (hf:FRel N (gm E) ro fr a) {d:Int} {x:Option Operand} {l:Int} (h:cZ fr d (x.map aA)=some l):(x=none/\l=d)\/∃ y k,x=some y/\a.eval y=.int k l:=by
 cases x with
 | none=>simp [cZ] at h; exact .inl ⟨rfl,h.symm⟩
 | some y=>
  simp only [Option.map_some,cZ] at h
  split at h<;>simp only [aB,reduceCtorEq] at h
  rename_i k i he
  subst h
  have h1:=aC hf y
  rw [he] at h1
  exact .inr ⟨y,k,rfl,h1⟩
theorem CI (hf:FRel N (gm E) ro fr a) {t:TypeId} {x:Operand} {lo hi:Option Operand} (ho:o.op=.slice t x lo hi none) (ht:P.underlying t=some .string)
 (hs:qv fr (hp E) (.ss (aA x) (lo.map aA) (hi.map aA))=some s) (hc:qc fr (hp E) (.ss (aA x) (lo.map aA) (hi.map aA))):QOk P o E ro a s:=by
 have h1:=aC hf x
 simp only [qv] at hs
 simp only [qc] at hc
 split at hs<;>first | (simp only [reduceCtorEq] at hs; done) | skip
 rename_i str he
 split at hs<;>simp only [aB,reduceCtorEq] at hs
 rename_i l h hl hh
 subst hs
 rw [he] at h1 hc
 simp only [hl,hh] at hc
 have h1':a.eval x=.string str:=h1
 obtain ⟨c0,c1,c2⟩:=hc
 refine ⟨_,rfl,fun X w _=>?_⟩
 have hx:∀ i j,str.extract i j=mk (((bl str).take j).drop i):=fun i j=>by
  apply ByteArray.ext
  apply Array.ext'
  simp [mk,bl,ByteArray.data_extract,List.extract_eq_take_drop,List.drop_take]
 have hsz:str.size=(bl str).length:=dE str
 have hh0:0<=h:=by omega
 rcases kA hf hl with ⟨rfl,rfl⟩ | ⟨yl,kl,rfl,hyl⟩<;>rcases kA hf hh with ⟨rfl,rfl⟩ | ⟨yh,kh,rfl,hyh⟩ <;>
  simp [execOp,Instr.sliceAt,Instr.slice,Instr.sliceBounds,Instr.sliceBound,asIntOf,underlying, *]
 all_goals (intro hn; omega)
theorem xL (hf:FRel N (gm E) ro fr a) {op:BinOp} {t t':TypeId} {x y:Operand} (ho:o.op=.binOp op t x y t') (hs:qv fr (hp E) (.bin op nw (aA x) (aA y))=some s) (hc:qc fr (hp E) (.bin op nw (aA x) (aA y))) :
 QOk P o E ro a s:=by
 simp only [qv] at hs
 simp only [qc] at hc
 split at hs
 · rename_i k m k' n hx hy
   rw [hx,hy] at hc
   exact AB hf ho hx hy hs hc
 · rename_i m n hx hy
   rw [hx,hy] at hc
   exact z7 hf ho hx hy hs hc
 · cases hs
end
theorem eS {R:C->Value->Prop} {cs vs:List C} {cur us:List Value} {off:Nat} (h:All2 R cs cur) (k:All2 R vs us):All2 R (aM cs off vs) (cur.take off ++ us ++ cur.drop (off + us.length)):=by
 unfold aM
 rw [k.1]
 exact ((h.take _).app k).app (h.drop _)
section
variable {P:Program} {o:Oper} {N:Nat} {fr:Fr} {a:Act} {E:Es} {ro:RO} {s:S} {nw:Bool} {X0:Ctx} {w0:World}
theorem lR {fs:Array Field}:∀ {l:List (Nat × Operand)} {l':List (Nat × Nat × O)},nQ P fs l=some l'->
 ∀ {places:Array (Nat × Nat)},(∀ (i:Nat) (f:Field) (n:Nat),fs[i]? = some f->aF P f.type=some n->places[i]? = some (f.offset,n))->
 ∀ (cs:List C) (cur:List Value),All2 (C.rel (gm E) ro) cs cur->nU fr cs.length l'->∀ {r:List C},FRel N (gm E) ro fr a->lZ fr cs l'=some r->
 ∃ res,Instr.fill (places[·]?) cur.toArray (l.map fun x=>(x.1,a.eval x.2))=some (List.toArray res)/\All2 (C.rel (gm E) ro) r res
 | [],l',h,places,hp,cs,cur,hcc,hc,r,hf,hv=>by
  simp only [nQ,aB] at h
  subst h
  simp only [lZ,aB] at hv
  subst hv
  exact ⟨cur,rfl,hcc⟩
 | (i,x) :: l,l',h,places,hp,cs,cur,hcc,hc,r,hf,hv=>by
  simp only [nQ] at h
  split at h
  · rename_i f hfi
    split at h
    · rename_i n l2 hn hl2
      simp only [aB] at h
      subst h
      simp only [lZ] at hv
      simp only [nU] at hc
      have hx:=aC hf x
      split at hv
      · rename_i y hy
        rw [hy] at hx hc
        have hx':y.rel (gm E) ro (a.eval x):=hx
        simp only at hc
        obtain ⟨⟨hok,hlen,hle⟩,hc2⟩:=hc
        have hcv:=A.cells_rel hx' hok
        have hl3:(a.eval x).cells.toList.length=n:=by rw [<-hcv.1]; exact hlen
        have hl4:(a.eval x).cells.size=n:=by simpa using hl3
        have hspl:(aM cs f.offset y.cells).length=cs.length:=by simp [aM]; omega
        rw [<-hspl] at hc2
        obtain ⟨res,ih,ihr⟩:=lR hl2 hp (aM cs f.offset y.cells) _ (eS hcc hcv) hc2 hf hv
        refine ⟨res,?_,ihr⟩
        simp only [List.map_cons,Instr.fill,hp i f n hfi hn]
        rw [if_neg (by have:=hcc.1; simp; omega)]
        rw [<-ih]
        congr 1
        have:=fX f.offset (a.eval x).cells.toList 0 cur (by have:=hcc.1; simp at hl3 ⊢; omega)
        simp only [Nat.add_zero] at this
        rw [<-Array.foldl_toList,Array.toList_zipIdx,this]
      · cases hv
    · cases h
  · cases h
theorem jP:∀ {fs:List Field} {pl:List (Nat × Nat)},iF P fs=some pl->∀ (i:Nat) (f:Field) (n:Nat),fs[i]? = some f->aF P f.type=some n->pl[i]? = some (f.offset,n)
 | [],pl,h,i,f,n,hf,hn=>by simp at hf
 | g :: fs,pl,h,i,f,n,hf,hn=>by
  simp only [iF,List.mapM_cons,Option.bind_eq_bind,Option.pure_def,Option.bind_eq_some_iff] at h
  obtain ⟨y,hy,r,hr,hpl⟩:=h
  simp only [aB] at hpl
  subst hpl
  cases i with
  | zero=>
   simp only [List.getElem?_cons_zero,aB] at hf
   subst hf
   unfold aF at hn
   cases hi:P.info? g.type with
   | none=>simp [hi] at hy
   | some i=>simp [hi] at hy hn; subst hn; simp [<-hy]
  | succ i=>simpa using jP (fs:=fs) (pl:=r) hr i f n (by simpa using hf) hn
theorem C1 (hf:FRel N (gm E) ro fr a) {t:TypeId} {parts:Array (Nat × Operand)} (ho:o.op=.build t parts) {fs:Array Field} (ht:P.underlying t=some (.struct fs)) {i:TypeInfo} (hi:P.info? t=some i)
 {z:Value} (hz:i.zero=some z) {pl:List (Nat × Nat)} (hp':iF P fs.toList=some pl) {l:List (Nat × Nat × O)} (hl:nQ P fs parts.toList=some l)
 (hs:qv fr (hp E) (.bd z.cells.toList l)=some s) (hc:qc fr (hp E) (.bd z.cells.toList l)):QOk P o E ro a s:=by
 simp only [qv,Option.map_eq_some_iff] at hs
 obtain ⟨cs,hcs,rfl⟩:=hs
 simp only [qc] at hc
 obtain ⟨res,hfill,hres⟩:=lR (places:=pl.toArray) hl (fun i f n h1 h2=>by simpa using jP hp' i f n (by simpa using h1) h2) (z.cells.toList.map C.vl) z.cells.toList (fN _) (by simpa using hc) hf hcs
 refine ⟨.agg res.toArray,⟨res,rfl,hres⟩,fun X w _=>?_⟩
 rw [Array.toArray_toList] at hfill
 simp only [execOp,ho,Instr.build]
 simp [underlying,ht,typeInfo,zeroValue,hi,hz,Array.mapM_eq_mapM_toList,run_places w _ _ hp']
 have e2:(fun (x:Nat)=>pl.toArray[x]?)=(fun x=>pl[x]?):=by funext x; simp
 rw [e2] at hfill
 have e3:(List.map (fun x=>(x.1,a.eval x.2)) parts.toList)=List.map (fun x=>(x.fst,a.eval x.snd)) parts.toList:=rfl
 simp only [hfill]
 simp
theorem nV {p q:Nat->Option (Nat × Nat)} (h:∀ i x,p i=some x->q i=some x):∀ (l:List (Nat × Value)) (cells r:Array Value),Instr.fill p cells l=some r->Instr.fill q cells l=some r
 | [],_,_,hf=>hf
 | (i,v) :: l,cells,r,hf=>by
  simp only [Instr.fill] at hf ⊢
  cases hp:p i with
  | none=>simp [hp] at hf
  | some x=>
   obtain ⟨off,size⟩:=x
   rw [hp] at hf
   rw [h i _ hp]
   simp only at hf ⊢
   split at hf
   · cases hf
   · rename_i hc
     rw [if_neg hc]
     exact nV h l _ r hf
theorem BJ (hf:FRel N (gm E) ro fr a) {t e:TypeId} {len n:Nat} {parts:Array (Nat × Operand)} (ho:o.op=.build t parts) (ht:P.underlying t=some (.array len e)) {i:TypeInfo} (hi:P.info? t=some i)
 {z:Value} (hz:i.zero=some z) (hn:aF P e=some n) {l:List (Nat × Nat × O)} (hl:nQ P (s9 len e n) parts.toList=some l)
 (hs:qv fr (hp E) (.bd z.cells.toList l)=some s) (hc:qc fr (hp E) (.bd z.cells.toList l)):QOk P o E ro a s:=by
 simp only [qv,Option.map_eq_some_iff] at hs
 obtain ⟨cs,hcs,rfl⟩:=hs
 simp only [qc] at hc
 have hget:∀ (k:Nat) (f:Field),(s9 len e n)[k]? = some f->k < len/\f=⟨"",e,k * n,false,"","",0⟩:=fun k f hk=>by
  unfold s9 at hk
  rw [Array.getElem?_map] at hk
  rcases kK k len with h | h
  · rw [Array.getElem?_eq_getElem (by simpa using h)] at hk
    simp at hk
    exact ⟨h,hk.symm⟩
  · rw [Array.getElem?_eq_none (by simpa using h)] at hk; cases hk
 obtain ⟨res,hfill,hres⟩:=lR (places:=(Array.range len).map fun k=>(k * n,n)) hl (fun k f m h1 h2=>by
  obtain ⟨hk,rfl⟩:=hget k f h1
  simp only [hn,aB] at h2
  subst h2
  simp [hk]) (z.cells.toList.map C.vl) z.cells.toList (fN _) (by simpa using hc) hf hcs
 refine ⟨.agg res.toArray,⟨res,rfl,hres⟩,fun X w _=>?_⟩
 rw [Array.toArray_toList] at hfill
 have hfill2:=nV (q:=fun k=>some (k * n,n)) (fun k x hk=>by
  simp only [Array.getElem?_map] at hk
  rcases kK k len with h | h
  · rw [Array.getElem?_eq_getElem (by simpa using h)] at hk
    simpa using hk
  · rw [Array.getElem?_eq_none (by simpa using h)] at hk; cases hk) _ _ _ hfill
 simp only [execOp,ho,Instr.build]
 simp [underlying,ht,typeInfo,zeroValue,hi,hz,aE hn]
 have e3:(List.map (fun x=>(x.1,a.eval x.2)) parts.toList)=List.map (fun x=>(x.fst,a.eval x.snd)) parts.toList:=rfl
 simp only [hfill2]
 simp
theorem zZ (hf:FRel N (gm E) ro fr a) {t t':TypeId} {x y:Operand} {b:Bool} (ho:o.op=.call { callee:=.builtin (if b then .max else .min),args:=#[x,y],argTypes:=#[t,t'] })
 (hs:qv fr (hp E) (.mx b (aA x) (aA y))=some s):QOk P o E ro a s:=by
 have h1:=aC hf x; have h2:=aC hf y
 simp only [qv] at hs
 split at hs<;>simp only [aB,reduceCtorEq] at hs
 rename_i k m k' n hx hy
 subst hs
 rw [hx] at h1; rw [hy] at h2
 have h1':a.eval x=.int k m:=h1
 have h2':a.eval y=.int k' n:=h2
 refine ⟨.int k (bif b then max m n else min m n),rfl,fun X w _=>?_⟩
 cases b with
 | true=>
  have e:(if m < n then n else m)=max m n:=by split<;>omega
  simp [execOp,ho,h1',h2',resolve,invoke,builtin,Builtin.max_,Builtin.max2,e]
 | false=>
  have e:(if n < m then n else m)=min m n:=by split<;>omega
  simp [execOp,ho,h1',h2',resolve,invoke,builtin,Builtin.min_,Builtin.min2,e]
theorem AZ (hf:FRel N (gm E) ro fr a) {t e:TypeId} {len:Nat} {x y:Operand} (ho:o.op=.index t x y) (ht:P.underlying t=some (.array len e)) (ha:aJ P e=some false) (hn:aF P e=some 1)
 (hs:qv fr (hp E) (.ixa len (aA x) (aA y))=some s) (hc:qc fr (hp E) (.ixa len (aA x) (aA y))):QOk P o E ro a s:=by
 have h1:=aC hf x; have h2:=aC hf y
 simp only [qv] at hs
 split at hs<;>simp only [Option.map_eq_some_iff,reduceCtorEq] at hs
 rename_i cs k m hx hy
 obtain ⟨c,hcs,rfl⟩:=hs
 simp only [qc,hy] at hc
 rw [hx] at h1; rw [hy] at h2
 obtain ⟨vs,h1',hvs⟩:=h1
 have h2':a.eval y=.int k m:=h2
 obtain ⟨v,hv,hrel⟩:=hvs.get hcs
 refine ⟨v,hrel,fun X w _=>?_⟩
 simp [execOp,ho,h1',h2',Instr.index,asIntOf,run_underlying ht,hc.1,hc.2,part,aN ha,aE hn,hv,Result.andThen]
theorem wO {t:TypeId} {sh:Sh} (h:xB P t=some sh):(∀ k,sh=.int k->P.underlying t=some (.int k))/\(sh=.str->P.underlying t=some .string)/\(sh=.bool->P.underlying t=some .bool):=by
 unfold xB at h
 split at h<;>simp only [aB,reduceCtorEq] at h<;>subst h<;>simp_all
theorem q8 (w:World) {d:Nat} {t:TypeId} {sh:Sh} (h:xB P t=some sh) {c e:C} {u v:Value} (hu:c.rel (gm E) ro u) (hv:e.rel (gm E) ro v) {x:Bool} (hx:dA sh c e=some x):(Op.equalIn (d + 1) t u v).run P w=.ok x w:=by
 obtain ⟨h1,h2,h3⟩:=wO h
 unfold dA at hx
 split at hx
 · rename_i k k1 a1 k2 b1
   have hu':u=.int k1 a1:=hu
   have hv':v=.int k2 b1:=hv
   subst hu'; subst hv'
   split at hx
   · rename_i hk; simp only [aB] at hx; subst hx; subst hk; exact run_equalIn_int w d _ _ _ _ _ (h1 _ rfl)
   · cases hx
 · rename_i a1 b1
   have hu':u=.string a1:=hu
   have hv':v=.string b1:=hv
   subst hu'; subst hv'
   simp only [aB] at hx; subst hx; exact (run_equalIn_string w d _ _ _ (h2 rfl)).trans (by rw [jR,jR])
 · rename_i a1 b1
   have hu':u=.bool a1:=hu
   have hv':v=.bool b1:=hv
   subst hu'; subst hv'
   simp only [aB] at hx; subst hx; exact run_equalIn_bool' w d _ _ _ (h3 rfl)
 · cases hx
theorem rK (w:World) {d:Nat} {cs ds:List C} {us vs:List Value} (hu:All2 (C.rel (gm E) ro) cs us) (hv:All2 (C.rel (gm E) ro) ds vs):∀ {fs:List Field} {l:List (Nat × Sh)} {b:Bool},cM P fs=some l->sB cs ds l=some b->
 (Op.eqFields (d + 1) us.toArray vs.toArray fs).run P w=.ok b w
 | [],l,b,h,hb=>by
  simp only [cM,aB] at h
  subst h
  simp only [sB,aB] at hb
  subst hb
  simp [Op.eqFields]
 | f :: fs,l,b,h,hb=>by
  simp only [cM] at h
  split at h
  · rename_i sh l' hsh hag hl'
    split at h
    · rename_i hc
      simp only [aB] at h
      subst h
      simp only [Bool.not_eq_true',beq_eq_false_iff_ne] at hc
      simp only [sB] at hb
      split at hb
      · rename_i c e hce hde
        split at hb
        · rename_i x y hx hy
          simp only [aB] at hb
          subst hb
          have ih:=rK w (d:=d) hu hv hl' hy
          obtain ⟨u,hu1,hu2⟩:=hu.get hce
          obtain ⟨v,hv1,hv2⟩:=hv.get hde
          have hp1:(part f.type us.toArray f.offset).run P w=.ok u w:=by simp [part,aN hag,hu1]
          have hp2:(part f.type vs.toArray f.offset).run P w=.ok v w:=by simp [part,aN hag,hv1]
          have hq:=q8 w (d:=d) hsh hu2 hv2 hx
          simp only [Op.eqFields,ne_eq,hc,not_false_eq_true,if_true,Sem.run_bind,hp1,hp2,hq,Result.andThen_ok]
          cases x
          · simp
          · simp only [Bool.not_true,Bool.false_eq_true,if_false,Bool.true_and]; exact ih
        · cases hb
      · cases hb
    · cases h
  · cases h
theorem wZ (hf:FRel N (gm E) ro fr a) {neg:Bool} {t t':TypeId} {x y:Operand} (ho:o.op=.binOp (if neg then .neq else .eql) t x y t') {fs:Array Field} (ht:P.underlying t=some (.struct fs)) (hp':P.stoodInHeld t=false)
 (hg:P.eqGuardType P.depth t=false) {l:List (Nat × Sh)} (hl:cM P fs.toList=some l) (hs:qv fr (hp E) (.eqT neg l (aA x) (aA y))=some s):QOk P o E ro a s:=by
 have h1:=aC hf x; have h2:=aC hf y
 simp only [qv] at hs
 split at hs
 · rename_i cs ds hx hy
   simp only [Option.map_eq_some_iff] at hs
   obtain ⟨b,hb,rfl⟩:=hs
   rw [hx] at h1; rw [hy] at h2
   obtain ⟨us,h1',h3⟩:=h1
   obtain ⟨vs,h2',h4⟩:=h2
   refine ⟨_,rfl,fun X w _=>?_⟩
   have hfo:P.fieldsOf t=fs:=by simp [Program.fieldsOf,ht]
   have he:(Op.equalIn 10000 t (.agg us.toArray) (.agg vs.toArray)).run P w=.ok b w:=by
    rw [show (10000:Nat)=9998 + 1 + 1 from rfl,run_equalIn_struct w _ t _ _ (by rw [hfo]; exact ht) hp',hfo]
    exact rK w h3 h4 hl hb
   cases neg
   · simp only [execOp,ho,h1',h2',Bool.false_eq_true,if_false,Sem.run_bind,run_eqGuard_agg w _ _ _ _ _ _ hg,Result.andThen_ok,run_eql_struct,he]
     simp
   · simp only [execOp,ho,h1',h2',if_true,Sem.run_bind,run_eqGuard_agg w _ _ _ _ _ _ hg,Result.andThen_ok,run_neq_struct,he]
     simp
 · cases hs
theorem tG (hf:FRel N (gm E) ro fr a) (hr0:Rel X0 E ro w0) {t u e:TypeId} {x:Operand} (ho:o.op=.convert t u x) (ht:P.underlying t=some (.slice e)) (he:P.underlying e=some (.int .u8)) (hu:P.underlying u=some .string)
 (hs:qv fr (hp E) (.b2s (aA x))=some s) (hc:qc fr (hp E) (.b2s (aA x))):QOk P o E ro a s:=by
 have h1:=aC hf x
 simp only [qv] at hs
 simp only [qc] at hc
 split at hs
 · rename_i len cap hx
   simp only [aB] at hs
   subst hs
   rw [hx] at h1
   have h1':a.eval x=.slice none len cap:=h1
   refine ⟨_,rfl,fun X w _=>?_⟩
   have hr:(convert t u (.slice none len cap)).run P w=.ok (.string .empty) w:=by
    rw [run_convert_bytes_string w t u e _ _ _ ht he hu]; rfl
   simp only [execOp,ho,h1',Sem.run_bind,hr,Result.andThen_ok]
   rfl
 · rename_i n len hx
   rw [hx] at h1 hc
   simp only at hc
   split at hs<;>simp only [aB,reduceCtorEq] at hs
   rename_i xs T sz hH
   subst hs
   simp only [hH] at hc
   obtain ⟨hlen,rfl,hrow⟩:=hc
   obtain ⟨g,hE⟩:=aR hH
   obtain ⟨g',k2,k3,k4,_,k6⟩:=h1
   obtain ⟨_,hl2,_⟩:=hr0.own n g _ hE
   have:g'=g:=by have:=aQ hE; rw [k2] at this; exact (bB this)
   subst this
   have h1':=k6 (by omega)
   refine ⟨_,rfl,fun X w hr=>?_⟩
   obtain ⟨_,_,hx1,_,hown,hrel,_⟩:=hr.own n _ _ hE
   let ns:List Int:=xs.map fun r=>C.gi (r[0]?)
   have hflat:g'.vs=ns.map (Value.int .u8):=by
    have e1:xs.flatten=ns.map fun n=>C.vl (.int .u8 n):=by
     have:∀ (l:List (List C)),(∀ r ∈ l,r=[.vl (.int .u8 (C.gi (r[0]?)))])->l.flatten=(l.map fun r=>C.gi (r[0]?)).map fun n=>C.vl (.int .u8 n):=by
      intro l
      induction l with
      | nil=>intro _; rfl
      | cons r l ih=>
       intro h
       have hr0:=h r (by simp)
       simp only [List.flatten_cons,List.map_cons,ih (fun y hy=>h y (by simp [hy]))]
       conv=>lhs; rw [hr0]
       rfl
     exact this xs hrow
    rw [e1] at hrel
    apply List.ext_getElem?
    intro i
    cases hi:g'.vs[i]? with
    | none=>
     rw [List.getElem?_eq_none_iff] at hi
     rw [eq_comm,List.getElem?_eq_none_iff]
     have:=hrel.1; simp at this ⊢; omega
    | some v=>
     obtain ⟨c,hc1,hc2⟩:=hrel.get' hi
     rw [List.getElem?_map] at hc1 ⊢
     cases hn:ns[i]? with
     | none=>simp [hn] at hc1
     | some m=>simp [hn] at hc1; subst hc1; simp only [C.fv] at hc2; simp [hc2]
   have hfold:∀ (l:List Int) (b:ByteArray),l.foldl (fun r n=>r.push (UInt8.ofNat n.toNat)) b=mk (bl b ++ l.map fun n=>UInt8.ofNat n.toNat):=by
    intro l
    induction l with
    | nil=>intro b; simp
    | cons n l ih=>
     intro b
     rw [List.foldl_cons,ih]
     congr 1
     simp [bl]
   have hres:(convert t u (.slice (aG g'.ob 0) len g'.cap)).run P w=.ok (.string (mk (lJ xs))) w:=by
    rw [run_convert_bytes_string w t u e _ _ _ ht he hu]
    cases hob:g'.ob with
    | none=>
     rw [hob] at hown
     rcases hown.2 with ⟨_,h0⟩ | ⟨g,c',cur,hv,_⟩
     · have:xs=[]:=List.eq_nil_of_length_eq_zero h0
       subst this
       rfl
     · simp [aG] at hv
    | some b=>
     rw [hob] at hown
     have hcell:=World.ownsRow.cells (h:=hown) (g:=b) rfl
     have hload:(loadCells ⟨b,0,none⟩ len).run P w=.ok (ns.map (Value.int .u8)).toArray w:=by
      have:=run_loadCells_list (P:=P) w ⟨b,0,none⟩ (ns.map (Value.int .u8)) (fun j v hv=>hcell j v (by rw [hflat]; exact hv))
      rw [List.length_map,List.length_map,hlen] at this
      exact this
     have:=run_bytesToString (P:=P) w ⟨b,0,none⟩ len g'.cap ns hload
     simp only [aG,Option.map_some]
     rw [this,hfold]
     congr 2
     simp only [lJ,ns,bl,List.map_map]
     rfl
   rw [hlen] at *
   simp only [execOp,ho,h1',Sem.run_bind,hres,Result.andThen_ok]
   rfl
 · cases hs
theorem B6 (hf:FRel N (gm E) ro fr a) {t e:TypeId} {x:Operand} {lo hi:Option Operand} (ho:o.op=.slice t x lo hi none) (ht:P.underlying t=some (.slice e)) {sz:Nat} (hz:aF P e=some sz)
 (hs:qv fr (hp E) (.sf sz (aA x) (lo.map aA) (hi.map aA))=some s) (hc:qc fr (hp E) (.sf sz (aA x) (lo.map aA) (hi.map aA))):QOk P o E ro a s:=by
 have h1:=aC hf x
 simp only [qv] at hs
 simp only [qc] at hc
 split at hs<;>first | (simp only [reduceCtorEq] at hs; done) | skip
 rename_i xs he
 split at hs<;>simp only [aB,reduceCtorEq] at hs
 rename_i l h hl hh
 subst hs
 rw [he] at h1 hc
 simp only [hl,hh] at hc
 obtain ⟨⟨c0,c1,c2⟩,c3,c4⟩:=hc
 have h1':FzR ro xs (a.eval x):=h1
 generalize hv:a.eval x=v at h1'
 obtain ⟨_,sz',ob,oa,koa,cap,vs,k1,k2,k3,k4,k5,k6,k7⟩:=h1'
 have hh0:0<=h:=by omega
 have hlen:((xs.take h.toNat).drop l.toNat).length=h.toNat - l.toNat:=by simp; omega
 have hflat:∀ (ys:List (List C)),(∀ r ∈ ys,r.length=sz)->∀ n,(ys.drop n).flatten=ys.flatten.drop (n * sz):=by
  intro ys
  induction ys with
  | nil=>intro _ n; simp
  | cons r ys ih=>
   intro hr n
   cases n with
   | zero=>simp
   | succ n=>
    have hrl:=hr r (by simp)
    simp only [List.drop_succ_cons,List.flatten_cons]
    rw [ih (fun y hy=>hr y (by simp [hy])),List.drop_append,show List.drop ((n + 1) * sz) r=[] from List.drop_eq_nil_iff.2 (by rw [hrl,Nat.succ_mul]; omega),hrl,Nat.succ_mul]
    simp
 have hpre:∀ (k:Nat) (c:C),((xs.take h.toNat).drop l.toNat).flatten[k]? = some c->xs.flatten[l.toNat * sz + k]? = some c:=by
  intro k c hk
  rw [hflat _ (fun r hr=>c4 r (List.mem_of_mem_take hr)),List.getElem?_drop] at hk
  have:(xs.take h.toNat).flatten <+: xs.flatten:=by
   conv=>rhs; rw [<-List.take_append_drop h.toNat xs]
   rw [List.flatten_append]; exact List.prefix_append _ _
  obtain ⟨r,hr⟩:=this
  rw [<-hr]
  rw [List.getElem?_append_left (bT.1 hk).1]
  exact hk
 have hrun:∀ X w,Rel X E ro w->(execOp a.eval o).run P w=.ok (.value (.slice (if cap=l.toNat then oa else oa.map (·.add (l.toNat * sz))) (h.toNat - l.toNat) (cap - l.toNat))) w:=by
  intro X w _
  rcases kA hf hl with ⟨rfl,rfl⟩ | ⟨yl,kl,rfl,hyl⟩<;>rcases kA hf hh with ⟨rfl,rfl⟩ | ⟨yh,kh,rfl,hyh⟩
  · simp [execOp,ho,hv,Instr.sliceAt,Instr.slice,Instr.sliceBounds,underlying,ht,aE hz]
  · have q1:h<=cap:=by omega
    simp [execOp,ho,hv,Instr.sliceAt,Instr.slice,Instr.sliceBounds,Instr.sliceBound,asIntOf,underlying,ht,aE hz,hyh,hh0,q1]
  · have q1:l<=(xs.length:Int):=by omega
    simp [execOp,ho,hv,Instr.sliceAt,Instr.slice,Instr.sliceBounds,Instr.sliceBound,asIntOf,underlying,ht,aE hz,hyl,c0,q1]
  · have q1:h<=cap:=by omega
    have q2:l<=max h 0:=by omega
    simp [execOp,ho,hv,Instr.sliceAt,Instr.slice,Instr.sliceBounds,Instr.sliceBound,asIntOf,underlying,ht,aE hz,hyl,hyh,hh0,q1,q2,c0]
 refine ⟨_,?_,hrun⟩
 show FzR ro _ _
 rw [<-hlen]
 have mem:∀ r ∈ (xs.take h.toNat).drop l.toNat,r ∈ xs:=fun r hr=>List.mem_of_mem_take (List.mem_of_mem_drop hr)
 by_cases hcl:cap=l.toNat
 · rw [if_pos hcl]
   have hnil:(xs.take h.toNat).drop l.toNat=[]:=List.eq_nil_of_length_eq_zero (by rw [hlen]; omega)
   rw [hnil]
   exact .mk [] sz ob oa (fun h=>absurd rfl h) _ (fun _=>undef) (by simp) (by simp) (by simp) (by simp) (by simp) (by simp) (by simp)
 · rw [if_neg hcl]
   have hsz:∀ r ∈ xs,sz'=sz:=fun r hr=>by rw [<-k1 r hr,c4 r hr]
   have hmap:(xs.take h.toNat).drop l.toNat ≠ []->oa.map (·.add (l.toNat * sz))=kV (ob.map fun y=>(y.1,y.2 + l.toNat * sz)) 0:=fun hne=>by
    rw [koa (fun e=>by subst e; simp at hne)]
    cases ob<;>simp [kV,bP]
   refine .mk _ sz _ _ hmap _ (fun k=>vs (l.toNat * sz + k)) (fun r hr=>c4 r (mem r hr)) (by rw [hlen]; omega) (fun hne=>?_) (fun k c hk=>?_) (fun k u hk=>?_) (fun k ys hk=>?_) (fun c hc=>?_)
   · have:xs ≠ []:=fun e=>by subst e; simp at hne
     have:=k3 this
     cases ob<;>simp at this ⊢
   · have:=k4 _ c (hpre k c hk)
     have hob:ob.isSome=true:=k3 (fun e=>by subst e; simp at hk)
     cases ob with
     | none=>simp at hob
     | some y=>simpa [Nat.add_assoc] using this
   · exact k5 _ u (hpre k _ hk)
   · exact k6 _ ys (hpre k _ hk)
   · obtain ⟨r,hr,hcr⟩:=List.mem_flatten.1 hc
     exact k7 c (List.mem_flatten.2 ⟨r,mem r hr,hcr⟩)
theorem mM (hr0:Rel X0 E ro w0) {n o:Nat} {v:Value} (h:C.rel (gm E) ro (.pt n o) v) {cs:List C} {T:TypeId} (hH:(hp E)[n]? = some (.cells cs T)) :
 ∃ b,v=.pointer (some ⟨b,o,none⟩)/\∀ X w,Rel X E ro w->w.shape? b=some (T,cs.length):=by
 obtain ⟨g,b,k1,k2,k3,k4⟩:=h
 obtain ⟨g',hE⟩:=aR hH
 have:g=g':=by have:=aQ hE; rw [k1] at this; exact (bB this)
 subst this
 refine ⟨b,k4,fun X w hr=>?_⟩
 obtain ⟨_,b',hb',hh,hrel⟩:=hr.own n g _ hE
 rw [k3] at hb'
 simp only [aB] at hb'
 subst hb'
 simp [World.shape?,hh,hrel.1]
theorem B4 (hf:FRel N (gm E) ro fr a) (hr0:Rel X0 E ro w0) {t u e:TypeId} {x:Operand} (ho:o.op=.convert t u x) (ht:P.underlying t=some (.pointer e)) (hu:P.underlying u=some .unsafePointer) {k:Nat} (hz:aF P e=some (k + 1))
 (hs:qv fr (hp E) (.cu (aA x))=some s) (hc:qc fr (hp E) (.cu (aA x))):QOk P o E ro a s:=by
 have h1:=aC hf x
 simp only [qv] at hs
 simp only [qc] at hc
 split at hs<;>simp only [aB,reduceCtorEq] at hs
 rename_i n off he
 subst hs
 rw [he] at h1 hc
 simp only at hc
 split at hc<;>try exact hc.elim
 rename_i cs T hH
 obtain ⟨b,hv,hsh⟩:=mM hr0 h1 hH
 refine ⟨_,h1,fun X w hr=>?_⟩
 unfold aF at hz
 cases hj:P.info? e with
 | none=>simp [hj] at hz
 | some j=>
  simp [hj] at hz
  have:=Lib.run_to_unsafe (P:=P) (w:=w) (src:=t) (dst:=u) ⟨b,off,none⟩ ht hu hj (by omega) (hsh X w hr) hc
  simp only [execOp,ho,hv]
  simp [this]
theorem AK (hf:FRel N (gm E) ro fr a) (hr0:Rel X0 E ro w0) {t u e:TypeId} {x:Operand} (ho:o.op=.convert t u x) (ht:P.underlying t=some .unsafePointer) (hu:P.underlying u=some (.pointer e)) {k:Nat} (hz:aF P e=some k)
 (hl:liesAt P P.depth e (k / P.cellsOf e) 0 e 1=true) (hs:qv fr (hp E) (.c4u e k (aA x))=some s) (hc:qc fr (hp E) (.c4u e k (aA x))):QOk P o E ro a s:=by
 have h1:=aC hf x
 simp only [qv] at hs
 simp only [qc] at hc
 split at hs<;>simp only [aB,reduceCtorEq] at hs
 rename_i n off he
 subst hs
 rw [he] at h1 hc
 simp only at hc
 split at hc<;>try exact hc.elim
 rename_i cs T hH
 obtain ⟨rfl,rfl,rfl⟩:=hc
 obtain ⟨b,hv,hsh⟩:=mM hr0 h1 hH
 refine ⟨_,h1,fun X w hr=>?_⟩
 unfold aF at hz
 cases hj:P.info? T with
 | none=>simp [hj] at hz
 | some j=>
  have:=Lib.run_from_unsafe (P:=P) (w:=w) (src:=t) (dst:=u) ⟨b,0,none⟩ ht hu hj (hsh X w hr) hl
  simp only [execOp,ho,hv]
  simp [this]
theorem A8 (hf:FRel N (gm E) ro fr a) (hr0:Rel X0 E ro w0) {t e:TypeId} {x:Operand} (ho:o.op=.call { callee:=.builtin .unsafeSliceData,args:=#[x],argTypes:=#[t] })
 (ht:P.underlying t=some (.slice e)) (hs:qv fr (hp E) (.usd (aA x))=some s) (hc:qc fr (hp E) (.usd (aA x))):QOk P o E ro a s:=by
 have h1:=aC hf x
 simp only [qv] at hs
 simp only [qc] at hc
 split at hs<;>simp only [aB,reduceCtorEq] at hs
 rename_i n len he
 subst hs
 rw [he] at h1 hc
 simp only at hc
 split at hc<;>try exact hc.elim
 rename_i xs T sz hH
 obtain ⟨g',hE⟩:=aR hH
 obtain ⟨_,hl,_,_,_,_,hpos⟩:=hr0.own n g' _ hE
 obtain ⟨g,h2,h3,h4,_,h6⟩:=h1
 have:g'=g:=by have:=aQ hE; rw [h2] at this; exact (bB this).symm
 subst this
 have hv:=h6 (by omega)
 refine ⟨.pointer (aG g'.ob 0),⟨g',h2,h3,h4,⟨_,rfl⟩,fun _=>rfl⟩,fun X w _=>?_⟩
 cases hob:g'.ob with
 | none=>
  rw [hob] at hv
  have hr:∀ ty l c,(Builtin.unsafeSliceData_ #[t] ty #[.slice none l c]).run P w=.ok (.pointer none) w:=fun _ _ _=>rfl
  simp [execOp,ho,hv,resolve,invoke,builtin,hr,aG]
 | some b=>
  rw [hob] at hv
  have:=hpos b hob
  have hne:g'.cap ≠ 0:=by omega
  have hr:∀ ty l c,c ≠ 0->(Builtin.unsafeSliceData_ #[t] ty #[.slice (some ⟨b,0,none⟩) l c]).run P w=.ok (.pointer (some ⟨b,0,none⟩)) w:=fun ty l c h=>by
   have:Builtin.unsafeSliceData_ #[t] ty #[.slice (some ⟨b,0,none⟩) l c]=(if c ≠ 0 then pure (.pointer (some ⟨b,0,none⟩)) else _):=rfl
   rw [this,if_pos h]; rfl
  simp [execOp,ho,hv,resolve,invoke,builtin,hr _ _ _ hne,aG]
theorem GB:Extern.allGenericRows.lookup "internal/abi.NoEscape" = none:=by kernel_rfl
theorem FC:Extern.allTypedRows.lookup "internal/abi.NoEscape" = none:=by kernel_rfl
theorem F7:Extern.allRows.lookup "internal/abi.NoEscape" = some Extern.AbiNoEscape.same:=by kernel_rfl
theorem GE:Extern.allNextRows.lookup "internal/abi.NoEscape" = none:=by kernel_rfl
theorem EM:Extern.allNextRows.lookup "" = none:=by kernel_rfl
theorem CU (hf:FRel N (gm E) ro fr a) {f:FuncId} {t:TypeId} {x:Operand} (ho:o.op=.call { callee:=.value (.func f),args:=#[x],argTypes:=#[t] }) {fn:Func} (hfn:P.funcs[f]? = some fn)
 (h1:fn.name="internal/abi.NoEscape") (h2:fn.origin="") (h3:fn.body.isNone=true):QOk P o E ro a (ev fr (aA x)):=by
 refine ⟨a.eval x,aC hf x,fun X w _=>?_⟩
 have:=run_callFunc_extern (P:=P) (f:=f) (e:=Extern.AbiNoEscape.same) hfn (by rw [h1]; decide) h3 (by simp [Extern.findNext,h1,h2,GE,EM]) (by simp [Extern.find,h1,GB,FC,F7]) #[a.eval x] w
 simp only [execOp,ho,resolve]
 simp [Act.eval,Deferred.ofValue,invoke] at this ⊢
 rw [this]
 rfl
theorem lH {N:Nat} {γ:List Gb} {ro:RO} {fr:Fr} {a:Act} (hf:FRel N γ ro fr a):∀ {xs:List Operand} {l:List (Bool × List C)},gH fr (xs.map aA)=some l->All2 (lC γ ro) l (xs.map a.eval)
 | [],l,h=>by simp only [List.map_nil,gH,aB] at h; subst h; exact .nil
 | x :: xs,l,h=>by
  have h1:=aC hf x
  simp only [List.map_cons,gH] at h
  split at h
  · rename_i c l' hx hl
    split at h
    · cases h
    · rename_i hc
      simp only [aB] at h
      subst h
      rw [hx] at h1
      exact .cons (C.rel_to0 (by simpa using hc) h1) (lH hf hl)
  · rename_i cs l' hx hl
    split at h
    · cases h
    · rename_i hc
      simp only [aB] at h
      subst h
      rw [hx] at h1
      obtain ⟨vs,h2,h3⟩:=h1
      refine .cons ⟨vs,h2,h3.1,fun i c v hc1 hv=>C.rel_to0 ?_ (h3.2 i c v hc1 hv)⟩ (lH hf hl)
      have:=hc
      simp only [List.any_eq_true,not_exists,not_and,Bool.not_eq_true] at this
      exact this c (dL hc1)
  · cases h
theorem CD {P:Program} {N:Nat} {ro:RO} {fr:Fr} {a:Act} {E:Es} {o:Oper} (hf:FRel N (gm E) ro fr a) {f:FuncId} {first cs:Array Operand} (ho:o.op=.makeFunc (.func f) first cs) (hfe:first=#[]) {l:List (Bool × List C)} (hl:gH fr (cs.toList.map aA)=some l):QOk P o E ro a (.va (.c1 (.fn f l))):=by
 refine ⟨.func (.func f) #[] (cs.map a.eval),⟨cs.toList.map a.eval,by rw [<-Array.toList_map,Array.toArray_toList],lH hf hl⟩,fun X w hr=>?_⟩
 subst hfe
 simp [execOp,ho,Instr.makeFunc]
theorem n5 {N:Nat} {γ:List Gb} {ro:RO} {fr:Fr} {a:Act} (hf:FRel N γ ro fr a):∀ {xs:List Operand} {l:List (List C)},eP fr (xs.map aA)=some l->All2 (fun cs v=>∃ us:List Value,v=.agg us.toArray/\All2 (C.fv ro) cs us) l (xs.map a.eval)
 | [],l,h=>by simp only [List.map_nil,eP,aB] at h; subst h; exact .nil
 | x :: xs,l,h=>by
  have h1:=aC hf x
  simp only [List.map_cons,eP] at h
  split at h
  · rename_i cs l' hx hl
    split at h
    · rename_i hc
      simp only [aB] at h
      subst h
      rw [hx] at h1
      obtain ⟨us,h2,h3⟩:=h1
      exact .cons ⟨us,h2,h3.1,fun i c v hc1 hv=>(C.rel_shut (List.all_eq_true.1 hc c (dL hc1))).1 (h3.2 i c v hc1 hv)⟩ (n5 hf hl)
    · cases h
  · cases h
theorem CS {P:Program} {N:Nat} {ro:RO} {fr:Fr} {a:Act} {E:Es} {o:Oper} (hf:FRel N (gm E) ro fr a) {f:FuncId} {first cs:Array Operand} (ho:o.op=.makeFunc (.func f) first cs) (hfe:cs=#[]) {l:List (List C)} (hl:eP fr (first.toList.map aA)=some l):QOk P o E ro a (.va (.c1 (.fm f l))):=by
 refine ⟨.func (.func f) (first.map a.eval) #[],⟨first.toList.map a.eval,by rw [<-Array.toList_map,Array.toArray_toList],n5 hf hl⟩,fun X w hr=>?_⟩
 subst hfe
 simp [execOp,ho,Instr.makeFunc]
theorem sI (hf:FRel N (gm E) ro fr a) (hr0:Rel X0 E ro w0) {i:QI} (hi:qC P nw o.op=some i) (hs:qv fr (hp E) i=some s) (hc:qc fr (hp E) i):QOk P o E ro a s:=by
 cases ho:o.op<;>rw [ho] at hi<;>simp only [qC,reduceCtorEq,aB] at hi
 case move x=>subst hi; simp only [qv,aB] at hs; subst hs; exact z9 hf (.inl ho)
 case assign x=>subst hi; simp only [qv,aB] at hs; subst hs; exact z9 hf (.inr ho)
 case binOp op t x y t'=>
  split at hi
  · simp only [aB] at hi; subst hi; exact xL hf ho hs hc
  · simp only [aB] at hi; subst hi; exact xL hf ho hs hc
  · rename_i ht
    split at hi<;>simp only [aB,reduceCtorEq] at hi<;>subst hi<;>simp only [qv] at hs<;>split at hs<;>simp only [aB,reduceCtorEq] at hs<;>subst hs
    · rename_i hx hy; exact xG (neg:=false) hf ho ht hx hy
    · rename_i hx hy; exact xG (neg:=true) hf ho ht hx hy
  · rename_i e ht
    split at hi
    · cases hi
    · rename_i hinf
      have hinf:(P.info? e).isNone=false:=by cases hj:P.info? e<;>simp_all
      split at hi<;>simp only [aB,reduceCtorEq] at hi<;>subst hi
      · exact xT (neg:=false) hf ho ht hinf hs
      · exact xT (neg:=true) hf ho ht hinf hs
  · rename_i fs ht
    split at hi
    · rename_i hcc
      simp only [Bool.and_eq_true,Bool.not_eq_true'] at hcc
      split at hi<;>simp only [aB,reduceCtorEq] at hi<;>rename_i hl<;>subst hi
      · exact wZ (neg:=false) hf ho ht hcc.1 hcc.2 hl hs
      · exact wZ (neg:=true) hf ho ht hcc.1 hcc.2 hl hs
    · cases hi
  · cases hi
 case unOp op t x=>
  cases op<;>simp only [aB,reduceCtorEq] at hi<;>subst hi
  · simp only [qv] at hs; simp only [qc] at hc
    split at hs
    · rename_i k m hx; rw [hx] at hc; simp only [lS,aB] at hs; subst hs; exact A1 hf ho hx hc
    · cases hs
  · simp only [qv] at hs
    split at hs<;>simp only [aB,reduceCtorEq] at hs
    rename_i b hx; subst hs; exact AN hf ho hx
 case convert t u x=>
  split at hi
  · rename_i ht hu
    simp only [aB] at hi
    subst hi
    simp only [qv] at hs
    split at hs<;>simp only [aB,reduceCtorEq] at hs
    rename_i k m hx; subst hs; exact BA hf ho ht hu hx
  · rename_i e ht hu
    split at hi<;>simp only [aB,reduceCtorEq] at hi
    rename_i k hz; subst hi; exact B4 hf hr0 ho ht hu hz hs hc
  · rename_i e ht hu
    split at hi
    · rename_i k hz
      split at hi<;>simp only [aB,reduceCtorEq] at hi
      rename_i hl; subst hi; exact AK hf hr0 ho ht hu hz hl hs hc
    · cases hi
  · rename_i e ht hu
    split at hi<;>simp only [aB,reduceCtorEq] at hi
    rename_i he; subst hi; exact tG hf hr0 ho ht he hu hs hc
  · cases hi
 case fieldAddr t x f=>
  split at hi
  · rename_i fs ht
    split at hi
    · rename_i fd hfd
      split at hi<;>simp only [aB,reduceCtorEq] at hi
      rename_i k hk; subst hi; exact CN hf hr0 ho ht hfd hk hs hc
    · cases hi
  · cases hi
 case field t x f=>
  split at hi
  · rename_i fs ht
    split at hi
    · rename_i fd hfd
      split at hi<;>simp only [aB,reduceCtorEq] at hi
      · rename_i n hk hz; subst hi; exact y7 hf ho ht hfd hk hz hs
      · rename_i hk hz; subst hi; exact z4 hf ho ht hfd hk hs
    · cases hi
  · cases hi
 case extract x j=>
  subst hi
  simp only [qv] at hs
  split at hs
  · rename_i l hx; simp only [Option.map_eq_some_iff] at hs; obtain ⟨y,hy,rfl⟩:=hs; exact CG hf ho hx hy
  · cases hs
 case makeFunc fn first cs=>
  split at hi
  · rename_i f
    split at hi
    · rename_i hfe
      simp only [aB] at hi
      subst hi
      simp only [qv,Option.map_eq_some_iff] at hs
      obtain ⟨l,hl,rfl⟩:=hs
      exact CD hf ho (by simpa using hfe) hl
    · split at hi<;>simp only [aB,reduceCtorEq] at hi
      rename_i hce
      subst hi
      simp only [qv,Option.map_eq_some_iff] at hs
      obtain ⟨l,hl,rfl⟩:=hs
      exact CS hf ho (by simpa using hce) hl
  · cases hi
 case nilCheck x=>subst hi; exact B5 hf hr0 ho hs hc
 case build t parts=>
  split at hi
  · rename_i fs i ht hi'
    split at hi
    · rename_i z pl hz hp
      simp only [Option.map_eq_some_iff] at hi
      obtain ⟨l,hl,rfl⟩:=hi
      exact C1 hf ho ht hi' hz hp hl hs hc
    · cases hi
  · rename_i len e i ht hi'
    split at hi
    · rename_i z n hz hn
      simp only [Option.map_eq_some_iff] at hi
      obtain ⟨l,hl,rfl⟩:=hi
      exact BJ hf ho ht hi' hz hn hl hs hc
    · cases hi
  · cases hi
 case index t x y=>
  split at hi
  · rename_i len e ht
    split at hi<;>simp only [aB,reduceCtorEq] at hi
    rename_i ha hn
    subst hi
    exact AZ hf ho ht ha hn hs hc
  · cases hi
 case slice t x lo hi' mx=>
  split at hi
  · rename_i ht
    simp only [aB] at hi
    subst hi
    exact CI hf ho ht hs hc
  · rename_i e ht
    split at hi<;>simp only [aB,reduceCtorEq] at hi
    rename_i n hz
    subst hi
    exact B6 hf ho ht hz hs hc
  · cases hi
 case call c=>
  obtain ⟨cl,args,ats⟩:=c
  simp only [sD] at hi
  split at hi
  · rename_i x t ha hat
    obtain rfl:args=#[x]:=by rw [<-Array.toArray_toList (xs:=args),ha]
    obtain rfl:ats=#[t]:=by rw [<-Array.toArray_toList (xs:=ats),hat]
    split at hi<;>simp only [aB,reduceCtorEq] at hi
    · rename_i ht; subst hi; exact AQ hf ho ht hs
    · rename_i e ht; subst hi; exact A5 hf hr0 ho ht hs hc
  · rename_i x y t t' ha hat
    obtain rfl:args=#[x,y]:=by rw [<-Array.toArray_toList (xs:=args),ha]
    obtain rfl:ats=#[t,t']:=by rw [<-Array.toArray_toList (xs:=ats),hat]
    split at hi<;>simp only [aB,reduceCtorEq] at hi
    subst hi; exact zZ (b:=true) hf ho hs
  · rename_i x y t t' ha hat
    obtain rfl:args=#[x,y]:=by rw [<-Array.toArray_toList (xs:=args),ha]
    obtain rfl:ats=#[t,t']:=by rw [<-Array.toArray_toList (xs:=ats),hat]
    split at hi<;>simp only [aB,reduceCtorEq] at hi
    subst hi; exact zZ (b:=false) hf ho hs
  · rename_i x t ha hat
    obtain rfl:args=#[x]:=by rw [<-Array.toArray_toList (xs:=args),ha]
    obtain rfl:ats=#[t]:=by rw [<-Array.toArray_toList (xs:=ats),hat]
    split at hi<;>simp only [aB,reduceCtorEq] at hi
    rename_i e ht; subst hi; exact A8 hf hr0 ho ht hs hc
  · rename_i f x t ha hat
    obtain rfl:args=#[x]:=by rw [<-Array.toArray_toList (xs:=args),ha]
    obtain rfl:ats=#[t]:=by rw [<-Array.toArray_toList (xs:=ats),hat]
    split at hi
    · rename_i fn hfn
      split at hi<;>simp only [aB,reduceCtorEq] at hi
      rename_i hc3
      simp only [Bool.and_eq_true,beq_iff_eq] at hc3
      subst hi
      simp only [qv,aB] at hs
      subst hs
      exact CU hf ho hfn hc3.1.1 hc3.1.2 hc3.2
    · cases hi
  · cases hi
theorem sG (hf:FRel N (gm E) ro fr a) {x y:O} (hi:xA P o.op=some (x,y)) {l:ByteArray} {k:IntKind} {n:Int} (hx:ev fr x=tS l) (hy:ev fr y=iS k n) (hc:0<=n/\n < (bl l).length) :
 ∃ c:UInt8,(bl l)[n.toNat]? = some c/\QOk P o E ro a (iS .u8 c.toNat):=by
 unfold xA at hi
 split at hi
 · rename_i t x' i' ho
   split at hi<;>simp only [aB,Prod.mk.injEq,reduceCtorEq] at hi
   rename_i ht
   obtain ⟨rfl,rfl⟩:=hi
   have h1:=aC hf x'; have h2:=aC hf i'
   rw [hx] at h1; rw [hy] at h2
   have h1':a.eval x'=.string l:=h1
   have h2':a.eval i'=.int k n:=h2
   have hlt:n.toNat < l.size:=by rw [dE]; omega
   have hlt2:n.toNat < (bl l).length:=by omega
   have hg:l[n.toNat]? = some (bl l)[n.toNat]:=by rw [getElem?_pos l n.toNat hlt]; rfl
   refine ⟨(bl l)[n.toNat],b5 hlt2,_,rfl,fun X w _=>?_⟩
   simp [execOp,ho,h1',h2',Instr.index,asIntOf,underlying,ht,hc.1,hg]
 · cases hi
theorem y5 {xs:List (List C)} {v:Value} (h:FzR ro xs v) {i sz:Nat} {r:List C} (hr:xs[i]? = some r) (hz:r.length=sz) :
 ∃ b off cap,v=.slice (some ⟨b,off,none⟩) xs.length cap/\∀ k c,r[k]? = some c->∃ u,ro b (off + i * sz + k)=some u/\c.fv ro u:=by
 obtain ⟨_,sz',ob,oa,koa,cap,vs,k1,k2,k3,k4,k5,k6,k7⟩:=h
 have hi:i < xs.length:=(bT.1 hr).1
 have hob:=k3 (fun e=>by subst e; simp at hi)
 obtain rfl:=koa (fun e=>by subst e; simp at hi)
 have hmem:=dL hr
 have hs:sz'=sz:=by rw [<-k1 r hmem,hz]
 subst hs
 cases ob with
 | none=>simp at hob
 | some y=>
  refine ⟨y.1,y.2,_,rfl,fun k c hk=>?_⟩
  have hklt:k < sz':=by rw [<-hz]; exact (bT.1 hk).1
  have hfl:xs.flatten[i * sz' + k]? = some c:=by rw [dU k1 hi hklt,hr]; exact hk
  refine ⟨vs (i * sz' + k),by have:=k4 _ c hfl; simpa [Nat.add_assoc] using this,?_⟩
  have hsh:=k7 c (dL hfl)
  cases c with
  | vl u=>exact k5 _ u hfl
  | fz ys=>exact k6 _ ys hfl
  | _=>simp [C.shut] at hsh
theorem CP (hf:FRel N (gm E) ro fr a) (hr0:Rel X0 E ro w0) {t e:TypeId} {x i:Operand} {n:Nat} (ho:o.op=.indexAddr t x i) (ht:P.underlying t=some (.slice e)) (hz:aF P e=some n) {K:S->Prop}
 (hv:vL fr (hp E) (.ia n (aA x) (aA i)) K):∃ s,K s/\QOk P o E ro a s:=by
 have h1:=aC hf x; have h2:=aC hf i
 simp only [vL] at hv
 split at hv
 · rename_i nm len k m hex hei
   rw [hex] at h1; rw [hei] at h2
   obtain ⟨⟨⟨c0,c1⟩,c2⟩,hK⟩:=hv
   refine ⟨_,hK,?_⟩
   have h2':a.eval i=.int k m:=h2
   obtain ⟨g,h3,h4,h5,h6,h7⟩:=h1
   unfold dK at c2
   split at c2
   · rename_i xs T sz' hH
     obtain ⟨hl,rfl⟩:=c2
     obtain ⟨g',hE⟩:=aR hH
     obtain ⟨_,hl2,_,_,hown,_⟩:=hr0.own nm g' _ hE
     have:g=g':=by have:=aQ hE; rw [h3] at this; exact (bB this)
     subst this
     have h1':=h7 (by omega)
     rcases hown.2 with ⟨_,h0⟩ | ⟨b,cap'',cur,hv',_⟩
     · omega
     · have hob:g.ob=some b:=by
        cases hg:g.ob with
        | none=>rw [hg] at hv'; simp [aG] at hv'
        | some b'=>rw [hg] at hv'; simp [aG] at hv'; simp [hv'.1]
       rw [hob] at h1'
       refine ⟨.pointer (some ⟨b,m.toNat * sz' + 0,none⟩),⟨g,h3,h4,h5,⟨_,rfl⟩,fun _=>⟨b,hob,rfl⟩⟩,fun X w _=>?_⟩
       simp [execOp,ho,h1',h2',Instr.indexAt,asIntOf,underlying,ht,c0,c1,aE hz,aG,bP]
   · rename_i xs T sz' hH
     obtain ⟨hl,rfl⟩:=c2
     obtain ⟨g',hE⟩:=aR hH
     obtain ⟨_,hl2,_,hown,_⟩:=hr0.own nm g' _ hE
     have:g=g':=by have:=aQ hE; rw [h3] at this; exact (bB this)
     subst this
     have h1':=h7 (by omega)
     rcases hown.2 with ⟨_,h0⟩ | ⟨b,cap'',cur,hv',_⟩
     · omega
     · have hob:g.ob=some b:=by
        cases hg:g.ob with
        | none=>rw [hg] at hv'; simp [aG] at hv'
        | some b'=>rw [hg] at hv'; simp [aG] at hv'; simp [hv'.1]
       rw [hob] at h1'
       refine ⟨.pointer (some ⟨b,m.toNat * sz' + 0,none⟩),⟨g,h3,h4,h5,⟨_,rfl⟩,fun _=>⟨b,hob,rfl⟩⟩,fun X w _=>?_⟩
       simp [execOp,ho,h1',h2',Instr.indexAt,asIntOf,underlying,ht,c0,c1,aE hz,aG,bP]
   · exact c2.elim
 · rename_i xs k m hex hei
   rw [hex] at h1; rw [hei] at h2
   obtain ⟨⟨⟨c0,c1⟩,c2⟩,hK⟩:=hv
   have h2':a.eval i=.int k m:=h2
   have h1':FzR ro xs (a.eval x):=h1
   have hlt:m.toNat < xs.length:=by omega
   have hr:=b5 hlt
   refine ⟨_,hK _ hr,?_⟩
   obtain ⟨b,off,cap,h3,h4⟩:=y5 h1' hr (c2 _ hr)
   refine ⟨.pointer (some ⟨b,off + m.toNat * n + 0,none⟩),⟨b,off + m.toNat * n,rfl,h4⟩,fun X w _=>?_⟩
   simp [execOp,ho,h3,h2',Instr.indexAt,asIntOf,underlying,ht,c0,c1,aE hz,bP]
 · exact hv.elim
theorem nM (hr0:Rel X0 E ro w0) {n len sz i j b:Nat} {g:Gb} {xs:List (List C)} {T:TypeId} (hE:E[n]? = some (g,.row xs T sz)) (hb:g.ob=some b) {r:List C} (hr:xs[i]? = some r) :
 ∀ k c,r[k]? = some c->∃ u,c.rel (gm E) ro u/\g.vs[i * sz + k]? = some u/\∀ X w,Rel X E ro w->w.cell? ⟨b,i * sz + k,none⟩=some u:=by
 intro k c hk
 obtain ⟨_,hl2,hx1,hsh,hown,hrel,_⟩:=hr0.own n g _ hE
 have hi:i < xs.length:=(bT.1 hr).1
 have hkl:k < sz:=by rw [<-hx1 r (dL hr)]; exact (bT.1 hk).1
 have hfl:xs.flatten[i * sz + k]? = some c:=by rw [dU hx1 hi hkl,hr]; exact hk
 obtain ⟨u,hu1,hu2⟩:=hrel.get hfl
 refine ⟨u,(C.rel_shut (hsh c (dL hfl))).2 hu2,hu1,fun X w hr=>?_⟩
 obtain ⟨_,_,_,_,hown',_,_⟩:=hr.own n g _ hE
 rw [hb] at hown'
 have:=World.ownsRow.cells (h:=hown') (g:=b) rfl (i * sz + k) u hu1
 rwa [bP,Nat.zero_add] at this
theorem mF (hr0:Rel X0 E ro w0) {n sz i b:Nat} {g:Gb} {xs:List (List C)} {T:TypeId} (hE:E[n]? = some (g,.rowx xs T sz)) (hb:g.ob=some b) {r:List C} (hr:xs[i]? = some r) :
 ∀ k c,r[k]? = some c->∃ u,c.rel (gm E) ro u/\g.vs[i * sz + k]? = some u/\∀ X w,Rel X E ro w->w.cell? ⟨b,i * sz + k,none⟩=some u:=by
 intro k c hk
 obtain ⟨_,hl2,hx1,hown,hrel,_⟩:=hr0.own n g _ hE
 have hi:i < xs.length:=(bT.1 hr).1
 have hkl:k < sz:=by rw [<-hx1 r (dL hr)]; exact (bT.1 hk).1
 have hfl:xs.flatten[i * sz + k]? = some c:=by rw [dU hx1 hi hkl,hr]; exact hk
 obtain ⟨u,hu1,hu2⟩:=hrel.get hfl
 refine ⟨u,hu2,hu1,fun X w hr=>?_⟩
 obtain ⟨_,_,_,hown',_,_⟩:=hr.own n g _ hE
 rw [hb] at hown'
 have:=World.ownsRow.cells (h:=hown') (g:=b) rfl (i * sz + k) u hu1
 rwa [bP,Nat.zero_add] at this
theorem A6 (hf:FRel N (gm E) ro fr a) (hr0:Rel X0 E ro w0) {t:TypeId} {x:Operand} (ho:o.op=.load t x) (ht:aJ P t=some false) {K:S->Prop} (hv:vL fr (hp E) (.ld1 (aA x)) K):∃ s,K s/\QOk P o E ro a s:=by
 have h1:=aC hf x
 have key:∀ {b q:Nat} {u:Value} {c:C},a.eval x=.pointer (some ⟨b,q,none⟩)->c.rel (gm E) ro u->(∀ X w,Rel X E ro w->w.cell? ⟨b,q,none⟩=some u)->QOk P o E ro a (.va (.c1 c)):=fun {b q u c} h hc hw=>by
  refine ⟨u,hc,fun X w hr=>?_⟩
  simp [execOp,ho,h,Instr.loadAt,Instr.sureAddr,loadVar,aN ht,hw X w hr]
 simp only [vL] at hv
 split at hv
 · rename_i n off hex
   rw [hex] at h1
   split at hv<;>try exact hv.elim
   rename_i cs T hH
   split at hv<;>try exact hv.elim
   rename_i c hc
   refine ⟨_,hv,?_⟩
   obtain ⟨g,hE⟩:=aR hH
   obtain ⟨_,b,hb,hh,hrel⟩:=hr0.own n g _ hE
   obtain ⟨g',b',k1,k2,k3,k4⟩:=h1
   have:g'=g:=by have:=aQ hE; rw [k1] at this; exact (bB this)
   subst this
   rw [hb] at k3
   simp only [aB] at k3
   subst k3
   obtain ⟨u,hu1,hu2⟩:=hrel.get hc
   refine key k4 hu2 fun X w hr=>?_
   obtain ⟨_,b2,hb2,hh2,_⟩:=hr.own n g' _ hE
   rw [hb] at hb2
   simp only [aB] at hb2
   subst hb2
   simp [World.cell?,hh2,hu1]
 · rename_i n len sz i j hex
   rw [hex] at h1
   split at hv<;>try exact hv.elim
   · rename_i xs T sz' hH
     obtain ⟨⟨c0,rfl,c2⟩,hK⟩:=hv
     obtain ⟨g,b,blk,hE,hb,hv'⟩:=e6 hr0 h1 (by unfold dK; rw [hH]; exact ⟨c0,rfl⟩)
     have hH2:=g4 hE
     rw [hH] at hH2
     simp only [aB] at hH2
     subst hH2
     have hr:=b5 c2
     have hK:=hK _ hr
     split at hK<;>try exact hK.elim
     rename_i c hc
     refine ⟨_,hK,?_⟩
     obtain ⟨u,hu1,hu2,hu3⟩:=nM (len:=len) (j:=j) hr0 hE hb hr j c hc
     exact key hv' hu1 hu3
   · rename_i xs T sz' hH
     obtain ⟨⟨c0,rfl,c2⟩,hK⟩:=hv
     obtain ⟨g,b,blk,hE,hb,hv'⟩:=e6 hr0 h1 (by unfold dK; rw [hH]; exact ⟨c0,rfl⟩)
     have hH2:=g4 hE
     rw [hH] at hH2
     simp only [aB] at hH2
     subst hH2
     have hr:=b5 c2
     have hK:=hK _ hr
     split at hK<;>try exact hK.elim
     rename_i c hc
     refine ⟨_,hK,?_⟩
     obtain ⟨u,hu1,hu2,hu3⟩:=mF hr0 hE hb hr j c hc
     exact key hv' hu1 hu3
 · rename_i r j hex
   rw [hex] at h1
   split at hv<;>try exact hv.elim
   rename_i c hc
   refine ⟨_,hv,?_⟩
   obtain ⟨b,off,k1,k2⟩:=h1
   obtain ⟨u,hu1,hu2⟩:=k2 j c hc
   have hsh:c.shut=true:=by cases c<;>first | rfl | exact hu2.elim
   exact key k1 ((C.rel_shut hsh).2 hu2) fun X w hr=>hr.rd _ _ _ hu1
 · exact hv.elim
theorem BH (hf:FRel N (gm E) ro fr a) (hr0:Rel X0 E ro w0) {t:TypeId} {x:Operand} (ho:o.op=.load t x) (ht:aJ P t=some true) {n:Nat} (hz:aF P t=some n) {K:S->Prop} (hv:vL fr (hp E) (.ldn n (aA x)) K):∃ s,K s/\QOk P o E ro a s:=by
 have h1:=aC hf x
 have key:∀ {b q:Nat} {cs:List C},cs.length=n->a.eval x=.pointer (some ⟨b,q,none⟩)->(∀ k c,cs[k]? = some c->∃ u,c.rel (gm E) ro u/\∀ X w,Rel X E ro w->w.cell? ⟨b,q + k,none⟩=some u)->QOk P o E ro a (.va (.gs cs)):=fun {b q cs} hl h hc=>by
  have:∃ us:List Value,us.length=n/\∀ k c u,cs[k]? = some c->us[k]? = some u->c.rel (gm E) ro u/\∀ X w,Rel X E ro w->w.cell? ⟨b,q + k,none⟩=some u:=by
   subst hl
   clear h ho ht hz hv h1
   induction cs generalizing q with
   | nil=>exact ⟨[],rfl,fun k c u h=>by simp at h⟩
   | cons c cs ih=>
    obtain ⟨u,hu1,hu2⟩:=hc 0 c rfl
    obtain ⟨us,hus,hus2⟩:=ih (q:=q + 1) (fun k c' hk=>by
     obtain ⟨u',h1,h2⟩:=hc (k + 1) c' (by simpa using hk)
     exact ⟨u',h1,fun X w hr=>by have:=h2 X w hr; rwa [show q + (k + 1)=q + 1 + k by omega] at this⟩)
    refine ⟨u :: us,by simp [hus],fun k c' u' h1 h2=>?_⟩
    cases k with
    | zero=>simp at h1 h2; subst h1; subst h2; exact ⟨hu1,hu2⟩
    | succ k=>
     obtain ⟨q1,q2⟩:=hus2 k c' u' (by simpa using h1) (by simpa using h2)
     exact ⟨q1,fun X w hr=>by have:=q2 X w hr; rwa [show q + 1 + k=q + (k + 1) by omega] at this⟩
  obtain ⟨us,hus,hus2⟩:=this
  refine ⟨.agg us.toArray,⟨us,rfl,by omega,fun k c u h1 h2=>(hus2 k c u h1 h2).1⟩,fun X w hr=>?_⟩
  have hload:(loadCells ⟨b,q,none⟩ n).run P w=.ok us.toArray w:=by
   have:=run_loadCells_list (P:=P) w ⟨b,q,none⟩ us (fun j v hv=>by
    have hj:j < cs.length:=by rw [hl,<-hus]; exact (bT.1 hv).1
    rw [bP]
    exact (hus2 j _ v (b5 hj) hv).2 X w hr)
   rwa [hus] at this
  simp [execOp,ho,h,Instr.loadAt,Instr.sureAddr,loadVar,aN ht,aE hz,hload]
 have sub:∀ {cs:List C} {off:Nat},off + n<=cs.length->((cs.drop off).take n).length=n/\∀ k c,((cs.drop off).take n)[k]? = some c->cs[off + k]? = some c:=fun {cs off} hle=>by
  refine ⟨by simp; omega,fun k c hk=>?_⟩
  rw [List.getElem?_take] at hk
  split at hk
  · rwa [List.getElem?_drop] at hk
  · cases hk
 simp only [vL] at hv
 split at hv
 · rename_i m off hex
   rw [hex] at h1
   split at hv<;>try exact hv.elim
   rename_i cs T hH
   obtain ⟨hle,hK⟩:=hv
   refine ⟨_,hK,?_⟩
   obtain ⟨g,hE⟩:=aR hH
   obtain ⟨_,b,hb,hh,hrel⟩:=hr0.own m g _ hE
   obtain ⟨g',b',k1,k2,k3,k4⟩:=h1
   have:g'=g:=by have:=aQ hE; rw [k1] at this; exact (bB this)
   subst this
   rw [hb] at k3
   simp only [aB] at k3
   subst k3
   obtain ⟨s1,s2⟩:=sub hle
   refine key s1 k4 fun k c hk=>?_
   obtain ⟨u,hu1,hu2⟩:=hrel.get (s2 k c hk)
   refine ⟨u,hu2,fun X w hr=>?_⟩
   obtain ⟨_,b2,hb2,hh2,_⟩:=hr.own m g' _ hE
   rw [hb] at hb2
   simp only [aB] at hb2
   subst hb2
   simp [World.cell?,hh2,hu1]
 · rename_i m len sz i j hex
   rw [hex] at h1
   split at hv<;>try exact hv.elim
   · rename_i xs T sz' hH
     obtain ⟨⟨c0,rfl,c2⟩,hK⟩:=hv
     obtain ⟨g,b,blk,hE,hb,hv'⟩:=e6 hr0 h1 (by unfold dK; rw [hH]; exact ⟨c0,rfl⟩)
     have hH2:=g4 hE
     rw [hH] at hH2
     simp only [aB] at hH2
     subst hH2
     have hr:=b5 c2
     obtain ⟨hle,hK⟩:=hK _ hr
     refine ⟨_,hK,?_⟩
     obtain ⟨s1,s2⟩:=sub hle
     refine key s1 hv' fun k c hk=>?_
     obtain ⟨u,hu1,hu2,hu3⟩:=nM (len:=len) (j:=j) hr0 hE hb hr (j + k) c (s2 k c hk)
     exact ⟨u,hu1,fun X w hr=>by have:=hu3 X w hr; rwa [<-Nat.add_assoc] at this⟩
   · rename_i xs T sz' hH
     obtain ⟨⟨c0,rfl,c2⟩,hK⟩:=hv
     obtain ⟨g,b,blk,hE,hb,hv'⟩:=e6 hr0 h1 (by unfold dK; rw [hH]; exact ⟨c0,rfl⟩)
     have hH2:=g4 hE
     rw [hH] at hH2
     simp only [aB] at hH2
     subst hH2
     have hr:=b5 c2
     obtain ⟨hle,hK⟩:=hK _ hr
     refine ⟨_,hK,?_⟩
     obtain ⟨s1,s2⟩:=sub hle
     refine key s1 hv' fun k c hk=>?_
     obtain ⟨u,hu1,hu2,hu3⟩:=mF hr0 hE hb hr (j + k) c (s2 k c hk)
     exact ⟨u,hu1,fun X w hr=>by have:=hu3 X w hr; rwa [<-Nat.add_assoc] at this⟩
 · rename_i r j hex
   rw [hex] at h1
   obtain ⟨hle,hK⟩:=hv
   refine ⟨_,hK,?_⟩
   obtain ⟨b,off,k1,k2⟩:=h1
   obtain ⟨s1,s2⟩:=sub hle
   refine key s1 k1 fun k c hk=>?_
   obtain ⟨u,hu1,hu2⟩:=k2 (j + k) c (s2 k c hk)
   have hsh:c.shut=true:=by cases c<;>first | rfl | exact hu2.elim
   exact ⟨u,(C.rel_shut hsh).2 hu2,fun X w hr=>by have:=hr.rd _ _ _ hu1; rwa [<-Nat.add_assoc] at this⟩
 · exact hv.elim
theorem tR {d:TypeDesc} {a b:Value} (ha:MapKept.IsKey d a) (hb:MapKept.IsKey d b):oN a b=true ↔ a=b:=by
 cases d<;>cases a<;>cases b<;>simp_all [MapKept.IsKey,oN]
 rename_i x y
 constructor
 · intro h; rw [<-sZ x,<-sZ y,h]
 · intro h; rw [h]
theorem eT {d:TypeDesc} {q:Value} (hq:MapKept.IsKey d q):∀ (es:List MapEntry),(∀ x ∈ es,MapKept.IsKey d x.key)->∀ i,(i4 (es.map (·.key)) q=none/\Instr.findNow d q es i=some none)\/
 ∃ j e,i4 (es.map (·.key)) q=some j/\es[j]? = some e/\e.key=q/\Instr.findNow d q es i=some (some (i + j,e.val))
 | [],_,_=>.inl ⟨rfl,rfl⟩
 | x :: es,h,i=>by
  obtain ⟨r,hr,hiff⟩:=MapKept.sameNow_of_keys hq (h x (.head _))
  have hke:=tR hq (h x (.head _))
  simp only [List.map_cons,i4]
  cases hk:oN q x.key with
  | true=>
   have e1:=hke.1 hk
   have:r=true:=hiff.2 e1
   subst this
   exact .inr ⟨0,x,rfl,rfl,e1.symm,by simp [Instr.findNow,hr]⟩
  | false=>
   have:r=false:=by
    cases r with
    | false=>rfl
    | true=>rw [hke.2 (hiff.1 rfl)] at hk; cases hk
   subst this
   rcases eT hq es (fun y hy=>h y (.tail _ hy)) (i + 1) with ⟨h1,h2⟩ | ⟨j,e,h1,h2,h3,h4⟩
   · exact .inl ⟨by simp [h1],by simp [Instr.findNow,hr,h2]⟩
   · refine .inr ⟨j + 1,e,by simp [h1],by simpa using h2,h3,?_⟩
     simp only [Instr.findNow,hr,h4]
     rw [show i + 1 + j=i + (j + 1) by omega]
theorem pW {X:Ctx} {w:World} (hr:Rel X E ro w) {n:Nat} {v:Value} (h1:(C.mp n).rel (gm E) ro v) {kd:TypeDesc} {ks:List Value} {vs:List A} (hH:(hp E)[n]? = some (.map kd ks vs)) :
 ∃ g b,E[n]? = some (g,.map kd ks vs)/\g.ob=some b/\v=.map (some b)/\(∀ k ∈ ks,MapKept.IsKey kd k)/\All2 (A.rel (gm E) ro) vs g.vs:=by
 obtain ⟨g,hE⟩:=aR hH
 obtain ⟨_,hk,hv,b,es,clock,hb,hh,_,_⟩:=hr.own n g _ hE
 obtain ⟨g',b',k1,k2,k3,k4⟩:=h1
 have:g'=g:=by have:=aQ hE; rw [k1] at this; exact (bB this)
 subst this
 rw [hb] at k3
 simp only [aB] at k3
 subst k3
 exact ⟨g',b,hE,hb,k4,hk,hv⟩
theorem CJ (hf:FRel N (gm E) ro fr a) (hr0:Rel X0 E ro w0) {t kt et:TypeId} {x y:Operand} {ok:Bool} {kd:TypeDesc} {z:Value} {inf:TypeInfo} (ho:o.op=.lookup t x y ok) (ht:P.underlying t=some (.map kt et)) (hkt:P.underlying kt=some kd) (hinf:P.info? et=some inf) (hz:inf.zero=some z)
 {K:S->Prop} (hv:vL fr (hp E) (.lk kd z ok (aA x) (aA y)) K):∃ s,K s/\QOk P o E ro a s:=by
 have h1:=aC hf x; have h2:=aC hf y
 simp only [vL] at hv
 split at hv<;>try exact hv.elim
 rename_i n q hx hy
 rw [hx] at h1; rw [hy] at h2
 have h2':a.eval y=q:=h2
 split at hv<;>try exact hv.elim
 rename_i kd' ks vs hH
 obtain ⟨⟨rfl,hq⟩,hK⟩:=hv
 obtain ⟨g,b,hE,hb,hxv,hks,hvs⟩:=pW hr0 h1 hH
 have hzv:∀ w,(zeroValue et).run P w=.ok z w:=fun w=>by simp [zeroValue,typeInfo,hinf,hz]
 have key:∀ X w,Rel X E ro w->∃ es clock,w.heap[b]? = some (.map es clock)/\es.toList.map (·.key)=ks/\es.toList.map (·.val)=g.vs:=fun X w hr=>by
  obtain ⟨_,_,_,b',es,clock,hb',hh,hk,hvv⟩:=hr.own n g _ hE
  rw [hb] at hb'
  simp only [aB] at hb'
  subst hb'
  exact ⟨es,clock,hh,hk,hvv⟩
 have mem:∀ (es:Array MapEntry),es.toList.map (·.key)=ks->∀ e ∈ es.toList,MapKept.IsKey kd' e.key:=fun es hes e he=>hks _ (by rw [<-hes]; exact List.mem_map.2 ⟨e,he,rfl⟩)
 cases hm:i4 ks q with
 | none=>
  have hg:oQ ks vs q=none:=by unfold oQ; rw [hm]; rfl
  rw [hg] at hK
  refine ⟨_,hK,(if ok then .tuple #[z,.bool false] else z),?_,fun X w hr=>?_⟩
  · cases ok with
    | true=>exact ⟨[z,.bool false],rfl,.cons (A.rel_ofV z) (.cons rfl .nil)⟩
    | false=>exact A.rel_ofV z
  · obtain ⟨es,clock,hh,hk,hvv⟩:=key X w hr
    rcases eT hq es.toList (mem es hk) 0 with ⟨_,h4⟩ | ⟨j,e,h3,_⟩
    · simp [execOp,ho,hxv,h2',Instr.lookup,run_underlying ht,MapKept.run_getObj_map hh,MapKept.run_checkKey hkt hq,MapKept.run_findKey hkt h4,hzv,Result.andThen]
    · rw [hk,hm] at h3; cases h3
 | some j=>
  obtain ⟨es,clock,hh,hk,hvv⟩:=key X0 w0 hr0
  rcases eT hq es.toList (mem es hk) 0 with ⟨h3,_⟩ | ⟨j',e,h3,h5,_,_⟩
  · rw [hk,hm] at h3; cases h3
  · rw [hk,hm] at h3
    simp only [aB] at h3
    subst h3
    have hgv:g.vs[j]? = some e.val:=by rw [<-hvv,List.getElem?_map,h5]; rfl
    obtain ⟨y',hy',hyr⟩:=hvs.get' hgv
    have hg:oQ ks vs q=some y':=by unfold oQ; rw [hm]; exact hy'
    rw [hg] at hK
    refine ⟨_,hK,(if ok then .tuple #[e.val,.bool true] else e.val),?_,fun X w hr=>?_⟩
    · cases ok with
      | true=>exact ⟨[e.val,.bool true],rfl,.cons hyr (.cons rfl .nil)⟩
      | false=>exact hyr
    · obtain ⟨es2,clock2,hh2,hk2,hvv2⟩:=key X w hr
      rcases eT hq es2.toList (mem es2 hk2) 0 with ⟨h3,_⟩ | ⟨j2,e2,h3,h6,_,h7⟩
      · rw [hk2,hm] at h3; cases h3
      · rw [hk2,hm] at h3
        simp only [aB] at h3
        subst h3
        have he:e2.val=e.val:=by
         have:g.vs[j]? = some e2.val:=by rw [<-hvv2,List.getElem?_map,h6]; rfl
         rw [hgv] at this; exact (bB this).symm
        simp [execOp,ho,hxv,h2',Instr.lookup,run_underlying ht,MapKept.run_getObj_map hh2,MapKept.run_checkKey hkt hq,MapKept.run_findKey hkt h7,he,Result.andThen]
theorem CT (hf:FRel N (gm E) ro fr a) (hr0:Rel X0 E ro w0) {t kt et:TypeId} {x:Operand} (ho:o.op=.call { callee:=.builtin .len,args:=#[x],argTypes:=#[t] }) (ht:P.underlying t=some (.map kt et))
 {K:S->Prop} (hv:vL fr (hp E) (.lm (aA x)) K):∃ s,K s/\QOk P o E ro a s:=by
 have h1:=aC hf x
 simp only [vL] at hv
 split at hv<;>try exact hv.elim
 rename_i n hx
 rw [hx] at h1
 split at hv<;>try exact hv.elim
 rename_i kd ks vs hH
 obtain ⟨g,b,hE,hb,hxv,_,_⟩:=pW hr0 h1 hH
 refine ⟨_,hv,.int .i64 ks.length,rfl,fun X w hr=>?_⟩
 obtain ⟨_,_,_,b',es,clock,hb',hh,hk,_⟩:=hr.own n g _ hE
 rw [hb] at hb'
 simp only [aB] at hb'
 subst hb'
 have hl:es.size=ks.length:=by rw [<-hk]; simp
 simp [execOp,ho,hxv,resolve,invoke,builtin,Builtin.len_,run_underlying ht,MapKept.run_getObj_map hh,Result.andThen,hl,goInt]
theorem m7 (hf:FRel N (gm E) ro fr a) (hr0:Rel X0 E ro w0) {i:LI} (hi:xP P o.op=some i) {K:S->Prop} (hv:vL fr (hp E) i K):∃ s,K s/\QOk P o E ro a s:=by
 cases ho:o.op<;>rw [ho] at hi<;>simp only [xP,reduceCtorEq] at hi
 case load t x=>
  split at hi<;>simp only [aB,reduceCtorEq] at hi
  · rename_i n ht hn; subst hi; exact BH hf hr0 ho ht hn hv
  · rename_i n ht hn; subst hi; exact A6 hf hr0 ho ht hv
 case indexAddr t x y=>
  split at hi
  · rename_i e ht
    split at hi<;>simp only [aB,reduceCtorEq] at hi
    rename_i n hn; subst hi; exact CP hf hr0 ho ht hn hv
  · cases hi
 case lookup t x y ok=>
  split at hi
  · rename_i k e ht
    split at hi<;>simp only [aB,reduceCtorEq] at hi
    rename_i kd z hk hz
    subst hi
    cases hinf:P.info? e with
    | none=>rw [hinf] at hz; cases hz
    | some inf=>
     rw [hinf] at hz
     simp only [Option.map_some,aB] at hz
     exact CJ hf hr0 ho ht hk hinf hz hv
  · cases hi
 case call c=>
  obtain ⟨cl,args,ats⟩:=c
  simp only at hi
  split at hi
  · rename_i x t ha hat
    obtain rfl:args=#[x]:=by rw [<-Array.toArray_toList (xs:=args),ha]
    obtain rfl:ats=#[t]:=by rw [<-Array.toArray_toList (xs:=ats),hat]
    split at hi<;>simp only [aB,reduceCtorEq] at hi
    rename_i k e ht
    subst hi
    exact CT hf hr0 ho ht hv
  · cases hi
end
def C.pub0 (n:Nat) (xs:List (List C)):C->C
 | .sl m l=>if m=n then (if l=xs.length then .fz xs else .no) else .sl m l
 | .qt m l sz i j=>if m=n then .no else .qt m l sz i j
 | .dp m l=>if m=n then .no else .dp m l
 | c=>c
def C.pub (n:Nat) (xs:List (List C)):C->C
 | .sl m l=>if m=n then (if l=xs.length then .fz xs else .no) else .sl m l
 | .qt m l sz i j=>if m=n then .no else .qt m l sz i j
 | .dp m l=>if m=n then .no else .dp m l
 | .fn g cs=>.fn g (cs.map fun x=>(x.1,x.2.map (C.pub0 n xs)))
 | c=>c
def A.pub (n:Nat) (xs:List (List C)):A->A
 | .c1 c=>.c1 (c.pub n xs)
 | .gs cs=>.gs (cs.map (C.pub n xs))
def S.pub (n:Nat) (xs:List (List C)):S->S
 | .va a=>.va (a.pub n xs)
 | .tu l=>.tu (l.map (A.pub n xs))
 | .cn g a=>.cn g (a.pub n xs)
 | .un=>.un
def B.pub (n:Nat) (xs:List (List C)):B->B
 | .cells cs T=>.cells (cs.map (C.pub n xs)) T
 | .row ys T sz=>.row ys T sz
 | .rowx ys T sz=>.rowx (ys.map fun r=>r.map (C.pub n xs)) T sz
 | .map kd ks vs=>.map kd ks (vs.map (A.pub n xs))
 | .dead=>.dead
def pV (n:Nat) (xs:List (List C)) (H:Hp):Hp:=(H.set n .dead).map (B.pub n xs)
inductive EI where
 | st (n:Nat) (x y:O)
 | al (zero:Value) (T:TypeId)
 | bx (T:TypeId) (x:O)
 | bsl (T:TypeId) (sz:Nat) (xs:List O)
 | bslx (T:TypeId) (sz:Nat) (xs:List O)
 | ap (T:TypeId) (sz bytes:Nat) (x y:O)
 | apz (T:TypeId) (sz bytes:Nat) (x y:O)
 | aps (T:TypeId) (x y:O)
 | us (T:TypeId) (x y:O)
 | mm (kd:TypeDesc)
 | mk (T:TypeId) (sz bytes:Nat) (zs:List Value) (x y:O)
 | mu (kd:TypeDesc) (x k y:O)
def rows (fr:Fr):List O->Option (List (List C))
 | []=>some []
 | o :: r=>match ev fr o,rows fr r with
  | .va a,some l=>some (a.cells :: l)
  | _,_=>none
def BO:S->Prop
 | .va a=>a.ok
 | _=>False
def mD (fr:Fr):List O->Prop
 | []=>True
 | o :: r=>BO (ev fr o)/\mD fr r
def w8 (l:List C):Prop:=∀ c ∈ l,c.shut=true/\c.one
def e8 (l:List (List C)):Prop:=∀ r ∈ l,w8 r
def vA (fr:Fr) (H:Hp) (T:TypeId) (sz bytes:Nat) (x:O) (ys:List (List C)) (K:S->Hp->Prop):Prop:=
 match ev fr x with
 | .va (.c1 (.vl (.slice none 0 0)))=>ys.length * bytes<=140737488355328/\K (.va (.c1 (.sl H.length ys.length))) (H ++ [.row ys T sz])
 | .va (.c1 (.sl n len))=>(match H[n]? with
  | some (.row xs T1 sz1)=>(xs.length=len/\T1=T/\sz1=sz)/\(len + ys.length) * bytes<=140737488355328/\K (.va (.c1 (.sl n (len + ys.length)))) (H.set n (.row (xs ++ ys) T sz))
  | _=>False)
 | _=>False
def C.nf:C->C
 | .vl (.slice none 0 0)=>.fz []
 | c=>c
def vZ (fr:Fr) (H:Hp) (T:TypeId) (sz bytes:Nat) (x:O) (ys:List (List C)) (K:S->Hp->Prop):Prop:=
 match ev fr x with
 | .va (.c1 (.sl n len))=>(match H[n]? with
  | some (.row xs T1 sz1)=>(xs.length=len/\T1=T/\sz1=sz/\0 < ys.length)/\(len + ys.length) * bytes<=140737488355328/\K (.va (.c1 (.fz (xs ++ ys.map (List.map C.nf))))) (pV n xs H)
  | _=>False)
 | _=>False
def vE (fr:Fr) (H:Hp) (K:S->Hp->Prop):EI->Prop
 | .st n x y=>match ev fr x,ev fr y with
  | .va (.c1 x),.va y=>(y.ok/\(∀ c ∈ y.cells,c.one)/\y.cells.length=n)/\(match x with
   | .pt nm off=>match H[nm]? with
    | some (.cells cs T)=>off + y.cells.length<=cs.length/\K .un (H.set nm (.cells (aM cs off y.cells) T))
    | _=>False
   | .qt nm len sz i j=>match H[nm]? with
    | some (.row xs T sz')=>(xs.length=len/\sz'=sz/\i < xs.length/\j + y.cells.length<=sz/\∀ c ∈ y.cells,c.shut=true)/\∀ r,xs[i]? = some r->K .un (H.set nm (.row (xs.set i (aM r j y.cells)) T sz))
    | some (.rowx xs T sz')=>(xs.length=len/\sz'=sz/\i < xs.length/\j + y.cells.length<=sz)/\∀ r,xs[i]? = some r->K .un (H.set nm (.rowx (xs.set i (aM r j y.cells)) T sz))
    | _=>False
   | _=>False)
  | _,_=>False
 | .al zero T=>K (.va (.c1 (.pt H.length 0))) (H ++ [.cells (zero.cells.toList.map C.vl) T])
 | .bx T x=>match ev fr x with
  | .va a=>a.ok/\K (.va (.c1 (.pt H.length 0))) (H ++ [.cells a.cells T])
  | _=>False
 | .bsl T sz xs=>match rows fr xs with
  | some l=>(mD fr xs/\(∀ x ∈ l,x.length=sz)/\e8 l)/\K (.va (.c1 (.sl H.length l.length))) (H ++ [.row l T sz])
  | none=>False
 | .bslx T sz xs=>match rows fr xs with
  | some l=>(mD fr xs/\∀ x ∈ l,x.length=sz)/\K (.va (.c1 (.sl H.length l.length))) (H ++ [.rowx l T sz])
  | none=>False
 | .ap T sz bytes x y=>match ev fr y with
  | .va (.c1 (.sl m k))=>(match H[m]? with
   | some (.row ys _ sz2)=>(ys.length=k/\sz2=sz/\e8 ys)/\vA fr H T sz bytes x ys K
   | _=>False)
  | .va (.c1 (.fz ys))=>((∀ r ∈ ys,r.length=sz)/\e8 ys)/\vA fr H T sz bytes x ys K
  | .va (.c1 (.vl (.slice _ 0 _)))=>vA fr H T sz bytes x [] K
  | _=>False
 | .apz T sz bytes x y=>match ev fr y with
  | .va (.c1 (.sl m k))=>(match H[m]? with
   | some (.row ys _ sz2)=>(ys.length=k/\sz2=sz/\e8 ys)/\vZ fr H T sz bytes x ys K
   | _=>False)
  | _=>False
 | .aps T x y=>match ev fr y with
  | .va (.c1 (.vl (.string s)))=>vA fr H T 1 1 x ((bl s).map fun c=>[.vl (.int .u8 c.toNat)]) K
  | _=>False
 | .us T x y=>match ev fr x,ev fr y with
  | .va (.c1 (.dp n len)),.va (.c1 (.vl (.int .i64 k)))=>(match H[n]? with
   | some (.row xs T' sz)=>(T'=T/\k=len/\xs.length=len/\sz=1/\(∀ r ∈ xs,∃ c:UInt8,r=[.vl (.int .u8 c.toNat)])/\len<=140737488355328)/\K (tS (mk (lJ xs))) (H.set n .dead)
   | _=>False)
  | _,_=>False
 | .mm kd=>K (.va (.c1 (.mp H.length))) (H ++ [.map kd [] []])
 | .mk T sz bytes zs x y=>match ev fr x,ev fr y with
  | .va (.c1 (.vl (.int _ k))),.va (.c1 (.vl (.int _ m)))=>(k=m/\0<=k/\k * bytes<=140737488355328/\k<=140737488355328)/\(k=0->K (.va (.c1 (.fz []))) H)/\(0 < k->K (.va (.c1 (.sl H.length k.toNat))) (H ++ [.row (List.replicate k.toNat (zs.map C.vl)) T sz]))
  | _,_=>False
 | .mu kd x k y=>match ev fr x,ev fr k,ev fr y with
  | .va (.c1 (.mp n)),.va (.c1 (.vl q)),.va v=>(match H[n]? with
   | some (.map kd' ks vs)=>(kd'=kd/\MapKept.IsKey kd q)/\K .un (H.set n (.map kd (jW ks q) (mI ks vs q v)))
   | _=>False)
  | _,_,_=>False
def wL:Value->Bool
 | .int .u8 n=>n == 0
 | _=>false
theorem x7 {z:Value} (h:wL z=true):z=.int .u8 0:=by
 unfold wL at h
 split at h
 · simp at h; rw [h]
 · cases h
def EI.ext:EI->EI
 | .bsl T sz xs=>.bslx T sz xs
 | .ap T sz b x y=>.apz T sz b x y
 | i=>i
def iY (P:Program) (op:Op):Option EI:=
 match op with
 | .store t x y=>match aJ P t,aF P t with
  | some _,some n=>some (.st n (aA x) (aA y))
  | _,_=>none
 | .alloc t=>match (P.info? t).map (·.zero) with
  | some (some z)=>some (.al z t)
  | _=>none
 | .box t x=>some (.bx t (aA x))
 | .makeSlice t x y=>match P.underlying t with
  | some (.slice e)=>match P.info? e with
   | some i=>match i.zero with
    | some z=>if z.cells.size=i.size/\0 < i.size then some (.mk e i.size i.bytes z.cells.toList (aA x) (aA y)) else none
    | none=>none
   | none=>none
  | _=>none
 | .makeMap t r=>if r.isSome then none else match P.underlying t with
  | some (.map k _)=>(P.underlying k).map .mm
  | _=>none
 | .mapUpdate t m k v=>match P.underlying t with
  | some (.map kt _)=>(P.underlying kt).map fun kd=>.mu kd (aA m) (aA k) (aA v)
  | _=>none
 | .buildSlice t len parts=>match P.underlying t with
  | some (.slice e)=>match P.info? e with
   | some i=>match i.zero with
    | some z=>if z.cells.size=i.size/\0 < i.size/\len * i.size<=16777216/\0 < len/\len<=maxLen/\parts.toList.map (·.1)=List.range len then some (.bsl e i.size (parts.toList.map fun p=>aA p.2)) else none
    | none=>none
   | none=>none
  | _=>none
 | .call c=>match c.callee,c.args.toList,c.argTypes.toList with
  | .builtin .append,[x,y],[t,t']=>match P.underlying t with
   | some (.slice e)=>match P.info? e with
    | some i=>match i.zero with
     | some z=>if z.cells.size=i.size/\0 < i.size/\t=t'/\0 < i.bytes then some (.ap e i.size i.bytes (aA x) (aA y))
      else if wL z=true/\i.size=1/\i.bytes=1 then (match P.underlying t' with
       | some .string=>some (.aps e (aA x) (aA y))
       | _=>none) else none
     | none=>none
    | none=>none
   | _=>none
  | .builtin .unsafeString,[x,y],[t,_]=>match P.underlying t with
   | some (.pointer e)=>match P.underlying e with
    | some (.int .u8)=>if P.cellsOf e=1 then some (.us e (aA x) (aA y)) else none
    | _=>none
   | _=>none
  | _,_,_=>none
 | _=>none
theorem B.On.same {γ γ':List Gb} {ro ro':RO} {w w':World} {g:Gb} {blk:B} (h:blk.On γ ro w g) (hg:GExt γ γ') (hr:Ext ro ro') (he:∀ k,g.ob=some k->w'.heap[k]? = w.heap[k]?):blk.On γ' ro' w' g:=by
 cases blk with
 | cells cs T=>
  obtain ⟨h1,b,hb,hh,h2⟩:=h
  exact ⟨h1,b,hb,by rw [he b hb]; exact hh,h2.imp fun _ _=>C.rel_mono hg hr⟩
 | row xs T sz=>
  obtain ⟨h0,h1,h2,h3,⟨h4,h5⟩,h6,h7⟩:=h
  refine ⟨h0,h1,h2,h3,⟨h4,?_⟩,h6.imp fun _ _=>C.fv_mono hr,h7⟩
  rcases h5 with h5 | ⟨b,cap',cur,hv,hb,hh,r⟩
  · exact .inl h5
  · have hob:g.ob=some b:=by
     cases hgo:g.ob with
     | none=>rw [hgo] at hv; simp [aG] at hv
     | some b'=>rw [hgo] at hv; simp [aG] at hv; simp [hv.1]
    exact .inr ⟨b,cap',cur,hv,hb,by rw [he b hob]; exact hh,r⟩
 | rowx xs T sz=>
  obtain ⟨h0,h1,h2,⟨h4,h5⟩,h6,h7⟩:=h
  refine ⟨h0,h1,h2,⟨h4,?_⟩,h6.imp fun _ _=>C.rel_mono hg hr,h7⟩
  rcases h5 with h5 | ⟨b,cap',cur,hv,hb,hh,r⟩
  · exact .inl h5
  · have hob:g.ob=some b:=by
     cases hgo:g.ob with
     | none=>rw [hgo] at hv; simp [aG] at hv
     | some b'=>rw [hgo] at hv; simp [aG] at hv; simp [hv.1]
    exact .inr ⟨b,cap',cur,hv,hb,by rw [he b hob]; exact hh,r⟩
 | map kd ks vs=>
  obtain ⟨h1,h2,h3,b,es,clock,hb,hh,h4⟩:=h
  exact ⟨h1,h2,h3.imp fun _ _=>A.rel_mono hg hr,b,es,clock,hb,by rw [he b hb]; exact hh,h4⟩
 | dead=>trivial
section
variable {X:Ctx} {E:Es} {ro:RO} {w w':World}
theorem Rel.cell_lt (h:Rel X E ro w) {b off:Nat} {c:Value} (hc:ro b off=some c):b < w.heap.size:=by
 have:=h.rd b off c hc
 simp only [World.cell?] at this
 rcases kK b w.heap.size with hb | hb
 · exact hb
 · rw [Array.getElem?_eq_none hb] at this; cases this
theorem B.On.lt {γ:List Gb} {g:Gb} {blk:B} (h:blk.On γ ro w g) (hl:blk.live=true) {b:Nat} (hb:g.ob=some b):b < w.heap.size:=by
 cases blk with
 | cells cs T=>
  obtain ⟨_,b',hb',hh,_⟩:=h
  rw [hb] at hb'
  simp only [aB] at hb'
  subst hb'
  exact (Array.getElem?_eq_some_iff.1 hh).1
 | row xs T sz=>
  obtain ⟨_,_,_,_,⟨_,h3⟩,_⟩:=h
  rw [hb] at h3
  rcases h3 with ⟨h3,_⟩ | ⟨g,cap',cur,hv,hg,hh,r⟩
  · simp [aG] at h3
  · simp [aG] at hv
    rw [hv.1]
    exact (Array.getElem?_eq_some_iff.1 hh).1
 | rowx xs T sz=>
  obtain ⟨_,_,_,⟨_,h3⟩,_⟩:=h
  rw [hb] at h3
  rcases h3 with ⟨h3,_⟩ | ⟨g,cap',cur,hv,hg,hh,r⟩
  · simp [aG] at h3
  · simp [aG] at hv
    rw [hv.1]
    exact (Array.getElem?_eq_some_iff.1 hh).1
 | map kd ks vs=>
  obtain ⟨_,_,_,b',es,clock,hb',hh,_⟩:=h
  rw [hb] at hb'
  simp only [aB] at hb'
  subst hb'
  exact (Array.getElem?_eq_some_iff.1 hh).1
 | dead=>simp [B.live] at hl
theorem cE {n:Nat} {g g':Gb} {blk blk':B} (hn:E[n]? = some (g,blk)) (hle:g.le g'):GExt (gm E) (gm (E.set n (g',blk'))):=by
 intro m gg hm
 obtain ⟨bk,hE⟩:=jK hm
 by_cases hnm:n=m
 · subst hnm
   rw [hn] at hE
   simp only [aB,Prod.mk.injEq] at hE
   obtain ⟨rfl,rfl⟩:=hE
   refine ⟨g',?_,hle⟩
   simp [gm,(bT.1 hn).1]
 · exact ⟨gg,by simp [gm,hnm,hE],gg.le_refl⟩
theorem bG (l:Es):GExt (gm E) (gm (E ++ l)):=by
 intro m gg hm
 refine ⟨gg,?_,gg.le_refl⟩
 simp only [gm,List.map_append]
 rw [List.getElem?_append_left (by simpa [gm] using (bT.1 hm).1)]
 exact hm
theorem Rel.swap (h:Rel X E ro w) {n:Nat} {g g':Gb} {blk blk':B} (hn:E[n]? = some (g,blk)) (hl:blk.live=true) (hle:g.le g') (hsz:w.heap.size<=w'.heap.size)
 (h1:w'.os=w.os) (h2:w'.tape=w.tape) (h3:w'.output=w.output) (hon:blk'.On (gm (E.set n (g',blk'))) ro w' g')
 (hc:(g'.ob=g.ob/\∀ k,some k ≠ g.ob->w'.heap[k]? = w.heap[k]?)\/(g'.ob=some w.heap.size/\∀ k,k < w.heap.size->w'.heap[k]? = w.heap[k]?)):Rel X (E.set n (g',blk')) ro w':=by
 have hlt:n < E.length:=(bT.1 hn).1
 have hext:=cE (blk':=blk') hn hle
 have hget:∀ (j:Nat) (y:Gb × B),(E.set n (g',blk'))[j]? = some y->(j=n/\y=(g',blk'))\/(j ≠ n/\E[j]? = some y):=by
  intro j y hy
  rw [List.getElem?_set] at hy
  split at hy
  · rename_i he; subst he; exact .inl ⟨rfl,by first | exact (bB hy).symm | (rw [if_pos hlt] at hy; exact (bB hy).symm)⟩
  · rename_i he; exact .inr ⟨fun e=>he e.symm,hy⟩
 have old:∀ (j k:Nat) (gj:Gb) (bk:B),E[j]? = some (gj,bk)->gj.ob=some k->bk.live=true->k < w.heap.size:=fun j k gj bk hy hk hl=>(h.own j _ bk hy).lt hl hk
 have keep:∀ (j k:Nat) (gj:Gb) (bk:B),j ≠ n->E[j]? = some (gj,bk)->gj.ob=some k->bk.live=true->w'.heap[k]? = w.heap[k]?:=by
  intro j k gj bk hj hy hgk hlv
  rcases hc with ⟨_,hk⟩ | ⟨_,hk⟩
  · exact hk k fun e=>hj (h.inj j n gj g bk blk k hy hn hgk e.symm hlv hl)
  · exact hk k (old j k gj bk hy hgk hlv)
 have ne:∀ (j k:Nat) (gj:Gb) (bk:B),j ≠ n->E[j]? = some (gj,bk)->gj.ob=some k->bk.live=true->g'.ob ≠ some k:=by
  intro j k gj bk hj hy hgk hlv e
  rcases hc with ⟨e2,_⟩ | ⟨e2,_⟩
  · exact hj (h.inj j n gj g bk blk k hy hn hgk (by rw [<-e2]; exact e) hlv hl)
  · have:=old j k gj bk hy hgk hlv; rw [e2] at e; simp at e; omega
 refine ⟨fun j g1 bk hy=>?_,fun j m gj gm bj bm k hy hz ej em lj lm=>?_,fun k off c hcc j gj bk hy ej=>?_,fun k off c hcc=>?_,h.ro0,h.rob,fun j k gj bk hy ej lj=>?_,h.gx.trans hext,Nat.le_trans h.sz hsz,fun k hk hp=>?_,by rw [h1]; exact h.os,by rw [h2]; exact h.tape,by rw [h3]; exact h.output⟩
 · rcases hget j _ hy with ⟨rfl,he⟩ | ⟨hne,hy'⟩
   · simp only [Prod.mk.injEq] at he; obtain ⟨rfl,rfl⟩:=he; exact hon
   · by_cases hlv:bk.live=true
     · exact (h.own j g1 bk hy').same hext (Ext.refl _) fun k hk=>keep j k g1 bk hne hy' hk hlv
     · cases bk<;>simp [B.live] at hlv; trivial
 · rcases hget j _ hy with ⟨rfl,he⟩ | ⟨hne,hy'⟩<;>rcases hget m _ hz with ⟨rfl,he2⟩ | ⟨hne2,hz'⟩
   · rfl
   · simp only [Prod.mk.injEq] at he; obtain ⟨rfl,rfl⟩:=he; exact absurd ej (ne m k gm bm hne2 hz' em lm)
   · simp only [Prod.mk.injEq] at he2; obtain ⟨rfl,rfl⟩:=he2; exact absurd em (ne j k gj bj hne hy' ej lj)
   · exact h.inj j m gj gm bj bm k hy' hz' ej em lj lm
 · rcases hget j _ hy with ⟨rfl,he⟩ | ⟨hne,hy'⟩
   · simp only [Prod.mk.injEq] at he
     obtain ⟨rfl,rfl⟩:=he
     rcases hc with ⟨e2,_⟩ | ⟨e2,_⟩
     · have:=h.apart k off c hcc j g blk hn (by rw [<-e2]; exact ej); rw [hl] at this; cases this
     · rw [e2] at ej; simp only [aB] at ej; have:=h.cell_lt hcc; omega
   · exact h.apart k off c hcc j gj bk hy' ej
 · have hs:w'.heap[k]? = w.heap[k]?:=by
    rcases hc with ⟨_,hk⟩ | ⟨_,hk⟩
    · exact hk k fun e=>by have:=h.apart k off c hcc n g blk hn e.symm; rw [hl] at this; cases this
    · exact hk k (h.cell_lt hcc)
   have:=h.rd k off c hcc
   rw [<-this]
   simp only [World.cell?,hs]
 · rcases hget j _ hy with ⟨rfl,he⟩ | ⟨hne,hy'⟩
   · simp only [Prod.mk.injEq] at he
     obtain ⟨rfl,rfl⟩:=he
     rcases hc with ⟨e2,_⟩ | ⟨e2,_⟩
     · exact h.par j k g blk hn (by rw [<-e2]; exact ej) hl
     · rw [e2] at ej; simp only [aB] at ej; have:=h.sz; omega
   · exact h.par j k gj bk hy' ej lj
 · have hs:w'.heap[k]? = w.heap[k]?:=by
    rcases hc with ⟨_,hk'⟩ | ⟨_,hk'⟩
    · exact hk' k fun e=>by rcases h.par n k g blk hn e.symm hl with h' | h'<;>first | omega | exact hp h'
    · exact hk' k (by have:=h.sz; omega)
   rw [hs]
   exact h.keep k hk hp
theorem Rel.new (h:Rel X E ro w) {blk:B} {g:Gb} (hb:∀ k,k < w.heap.size->w'.heap[k]? = w.heap[k]?) (hsz:w.heap.size<=w'.heap.size)
 (h1:w'.os=w.os) (h2:w'.tape=w.tape) (h3:w'.output=w.output) (hob:g.ob=none\/g.ob=some w.heap.size) (hon:blk.On (gm (E ++ [(g,blk)])) ro w' g):Rel X (E ++ [(g,blk)]) ro w':=by
 have hext:GExt (gm E) (gm (E ++ [(g,blk)])):=bG _
 have hget:∀ (n:Nat) (y:Gb × B),(E ++ [(g,blk)])[n]? = some y->(n=E.length/\y=(g,blk))\/(n < E.length/\E[n]? = some y):=by
  intro n y hy
  rw [List.getElem?_append] at hy
  split at hy
  · exact .inr ⟨by assumption,hy⟩
  · rename_i hge
    have:n - E.length=0:=by
     rcases Nat.eq_zero_or_pos (n - E.length) with h0 | h0
     · exact h0
     · rw [List.getElem?_eq_none (by simp; omega)] at hy; cases hy
    rw [this] at hy
    exact .inl ⟨by omega,by simpa using hy.symm⟩
 have old:∀ (n k:Nat) (gn:Gb) (bk:B),E[n]? = some (gn,bk)->gn.ob=some k->bk.live=true->k < w.heap.size:=fun n k gn bk hy hk hl=>(h.own n _ bk hy).lt hl hk
 refine ⟨fun n g' bk hy=>?_,fun n m gn gm bn bm k hy hz en em ln lm=>?_,fun k off c hc n gn bk hy en=>?_,fun k off c hc=>?_,h.ro0,h.rob,fun n k gn bk hy en ln=>?_,h.gx.trans hext,Nat.le_trans h.sz hsz,fun k hk hp=>?_,by rw [h1]; exact h.os,by rw [h2]; exact h.tape,by rw [h3]; exact h.output⟩
 · rcases hget n _ hy with ⟨rfl,he⟩ | ⟨hlt,hy'⟩
   · simp only [Prod.mk.injEq] at he; obtain ⟨rfl,rfl⟩:=he; exact hon
   · by_cases hlv:bk.live=true
     · exact (h.own n g' bk hy').same hext (Ext.refl _) fun k hk=>hb k (old n k g' bk hy' hk hlv)
     · cases bk<;>simp [B.live] at hlv; trivial
 · rcases hget n _ hy with ⟨rfl,he⟩ | ⟨hlt,hy'⟩<;>rcases hget m _ hz with ⟨rfl,he2⟩ | ⟨hlt2,hz'⟩
   · rfl
   · simp only [Prod.mk.injEq] at he; obtain ⟨rfl,rfl⟩:=he; have:=old m k gm bm hz' em lm; rcases hob with hob | hob<;>rw [hob] at en<;>simp at en; omega
   · simp only [Prod.mk.injEq] at he2; obtain ⟨rfl,rfl⟩:=he2; have:=old n k gn bn hy' en ln; rcases hob with hob | hob<;>rw [hob] at em<;>simp at em; omega
   · exact h.inj n m gn gm bn bm k hy' hz' en em ln lm
 · rcases hget n _ hy with ⟨rfl,he⟩ | ⟨hlt,hy'⟩
   · simp only [Prod.mk.injEq] at he; obtain ⟨rfl,rfl⟩:=he; have:=h.cell_lt hc; rcases hob with hob | hob<;>rw [hob] at en<;>simp at en; omega
   · exact h.apart k off c hc n gn bk hy' en
 · have:=h.rd k off c hc
   rw [<-this]
   simp only [World.cell?,hb k (h.cell_lt hc)]
 · rcases hget n _ hy with ⟨rfl,he⟩ | ⟨hlt,hy'⟩
   · simp only [Prod.mk.injEq] at he; obtain ⟨rfl,rfl⟩:=he; rcases hob with hob | hob<;>rw [hob] at en<;>simp at en; have:=h.sz; omega
   · exact h.par n k gn bk hy' en ln
 · rw [hb k (by have:=h.sz; omega)]
   exact h.keep k hk hp
end
end Go.W
