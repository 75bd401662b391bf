/- Lemmas and walks for the proof. -/
import Derived.Test.YtkpohmhenegkiaaGreatDoorRc
import Derived.Shelf.Slices.Clone
import Derived.Test.YtkpohmhenegkiaaGreatDoorProg
set_option maxRecDepth 100000
set_option maxHeartbeats 8000000
namespace Go.Proofs.YtkpohmhenegkiaaGreatDoor
open Go.W
theorem wU:Meets Tryz.prog 86 (xM fun l=>.bool (cF l)).sp:=by
 refine aF Tryz.func86 aNL 1 (by rw [Tryz.ntmps86]; decide) (aA _) s7 ?_
 rintro xs H K ⟨⟨h,rfl⟩,hK⟩
 obtain ⟨s,rfl⟩:=jG h
 simp -dsimp only [go_sem,aF4,aGD] at hK ⊢
 refine ⟨fun h1=>?_,fun h1=>?_⟩
 · refine dH hK ?_
   have:cF (bl s)=false:=by
    simp at h1
    rcases h1 with h1 | h1
    · have:bl s=[]:=List.length_eq_zero_iff.1 (by omega)
      rw [this]; rfl
    · exact sN (by omega)
   rw [this]
 · have hlen:0 < (bl s).length/\(bl s).length<=16:=by simp at h1; omega
   obtain ⟨hl0,hl⟩:=hlen
   refine aN (α:=Nat) (fun i=>[(0,tS s),(3,iS .i64 i)]) (fun i=>[]) (fun i=>i<=(bl s).length/\(∀ (j:Nat) (x:UInt8),j < i->(bl s)[j]? = some x->aX x=true)/\(0 < i->∀ x,(bl s)[0]? = some x->bD x.toNat=true)) (fun i=>(bl s).length - i) 0 0 ⟨by omega,by omega,by omega⟩ ?_ ?_ ?_
   · simp -dsimp only [go_sem]; simp
   · simp [go_sem]
   rintro i ⟨hi,ha,hb⟩
   rcases bC i (bl s).length with hlt | hge
   · have hg:decide ((i:Int) < ((bl s).length:Int))=true:=by simp; omega
     obtain ⟨c,hc⟩:∃ c,(bl s)[i]? = some c:=⟨_,aU hlt⟩
     have bad:(i=0/\bD c.toNat=false)\/aX c=false->W.Fin 0 K (bS false) []:=fun h=>dH hK (by
      rcases h with ⟨rfl,h⟩ | h
      · rw [yH hc h]
      · rw [LT hc h])
     have cB:aX c=true->(i=0->bD c.toNat=true)->(i + 1<=(bl s).length/\(∀ (j:Nat) (x:UInt8),j < i + 1->(bl s)[j]? = some x->aX x=true)/\(0 < i + 1->∀ x,(bl s)[0]? = some x->bD x.toNat=true)):=fun h1 h2=>⟨by omega,fun j x hj hx=>by
      rcases bC j i with h4 | h4
      · exact ha j x h4 hx
      · obtain rfl:j=i:=by omega
        rw [hc] at hx; obtain rfl:=bR hx; exact h1,fun _ x hx=>by
      rcases Nat.eq_zero_or_pos i with h0 | h0
      · subst h0; rw [hc] at hx; obtain rfl:=bR hx; exact h2 rfl
      · exact hb h0 x hx⟩
     have hb255:=c.toNat_lt
     have hcs:(0<=(c.toNat:Int)/\(c.toNat:Int)<=47)\/(48<=(c.toNat:Int)/\(c.toNat:Int)<=57)\/(58<=(c.toNat:Int)/\(c.toNat:Int)<=64)\/(65<=(c.toNat:Int)/\(c.toNat:Int)<=90)\/(91<=(c.toNat:Int)/\(c.toNat:Int)<=94)\/(95<=(c.toNat:Int)/\(c.toNat:Int)<=95)\/(96<=(c.toNat:Int)/\(c.toNat:Int)<=96)\/(97<=(c.toNat:Int)/\(c.toNat:Int)<=122)\/(123<=(c.toNat:Int)/\(c.toNat:Int)<=255):=by omega
     rcases hcs with h2 | h2 | h2 | h2 | h2 | h2 | h2 | h2 | h2
     · have d1:decide (97<=(c.toNat:Int))=false:=decide_eq_false (by omega)
       have d2:decide ((c.toNat:Int)<=122)=true:=decide_eq_true (by omega)
       have d3:decide (65<=(c.toNat:Int))=false:=decide_eq_false (by omega)
       have d4:decide ((c.toNat:Int)<=90)=true:=decide_eq_true (by omega)
       have d5:((c.toNat:Int) == 95)=false:=by simp; omega
       have d6:decide (48<=(c.toNat:Int))=false:=decide_eq_false (by omega)
       have d7:decide ((c.toNat:Int)<=57)=true:=decide_eq_true (by omega)
       have hL:bD c.toNat=false:=by unfold bD; rw [d1,d2,d3,d4]; rfl
       have hW:aX c=false:=by unfold aX iG iD; rw [hL,d5,d6,d7]; rfl
       rcases Nat.eq_zero_or_pos i with h0 | h0
       · have hz:((i:Int) == 0)=true:=by simp; omega
         simp (maxSteps:=1000000) -dsimp only [go_sem,hg,hc,aH,forall_eq',Int.toNat_natCast,d1,d3,d5,d6,hz,Bool.true_and,Bool.and_true,Bool.false_and,Bool.and_false,Bool.not_true,Bool.not_false]
         repeat' first | intro _ | apply And.intro
         all_goals first | omega | (rename_i h9; simp at h9; done) | skip
         all_goals exact bad (by rw [hL,hW]; exact .inl ⟨h0,rfl⟩)
       · have hz:((i:Int) == 0)=false:=by simp; omega
         simp (maxSteps:=1000000) -dsimp only [go_sem,hg,hc,aH,forall_eq',Int.toNat_natCast,d1,d3,d5,d6,hz,Bool.true_and,Bool.and_true,Bool.false_and,Bool.not_false]
         repeat' first | intro _ | apply And.intro
         all_goals first | omega | (rename_i h9; simp at h9; done) | skip
         all_goals exact bad (by rw [hL,hW]; exact .inr rfl)
     · have d1:decide (97<=(c.toNat:Int))=false:=decide_eq_false (by omega)
       have d2:decide ((c.toNat:Int)<=122)=true:=decide_eq_true (by omega)
       have d3:decide (65<=(c.toNat:Int))=false:=decide_eq_false (by omega)
       have d4:decide ((c.toNat:Int)<=90)=true:=decide_eq_true (by omega)
       have d5:((c.toNat:Int) == 95)=false:=by simp; omega
       have d6:decide (48<=(c.toNat:Int))=true:=decide_eq_true (by omega)
       have d7:decide ((c.toNat:Int)<=57)=true:=decide_eq_true (by omega)
       have hL:bD c.toNat=false:=by unfold bD; rw [d1,d2,d3,d4]; rfl
       have hW:aX c=true:=by unfold aX iG iD; rw [hL,d5,d6,d7]; rfl
       rcases Nat.eq_zero_or_pos i with h0 | h0
       · have hz:((i:Int) == 0)=true:=by simp; omega
         simp (maxSteps:=1000000) -dsimp only [go_sem,hg,hc,aH,forall_eq',Int.toNat_natCast,d1,d3,d5,d6,hz,Bool.true_and,Bool.and_true,Bool.false_and,Bool.and_false,Bool.not_true,Bool.not_false]
         repeat' first | intro _ | apply And.intro
         all_goals first | omega | (rename_i h9; simp at h9; done) | skip
         all_goals exact bad (by rw [hL,hW]; exact .inl ⟨h0,rfl⟩)
       · have hz:((i:Int) == 0)=false:=by simp; omega
         simp (maxSteps:=1000000) -dsimp only [go_sem,hg,hc,aH,forall_eq',Int.toNat_natCast,d1,d3,d5,d6,d7,hz,Bool.true_and,Bool.and_true,Bool.false_and,Bool.not_false]
         repeat' first | intro _ | apply And.intro
         all_goals first | omega | (rename_i h9; simp at h9; done) | skip
         all_goals exact aE (i + 1) 0 (cB (by rw [hW]) (fun h3=>by omega)) (by omega) (by simp -dsimp only [go_sem]; simp) (by simp [go_sem])
     · have d1:decide (97<=(c.toNat:Int))=false:=decide_eq_false (by omega)
       have d2:decide ((c.toNat:Int)<=122)=true:=decide_eq_true (by omega)
       have d3:decide (65<=(c.toNat:Int))=false:=decide_eq_false (by omega)
       have d4:decide ((c.toNat:Int)<=90)=true:=decide_eq_true (by omega)
       have d5:((c.toNat:Int) == 95)=false:=by simp; omega
       have d6:decide (48<=(c.toNat:Int))=true:=decide_eq_true (by omega)
       have d7:decide ((c.toNat:Int)<=57)=false:=decide_eq_false (by omega)
       have hL:bD c.toNat=false:=by unfold bD; rw [d1,d2,d3,d4]; rfl
       have hW:aX c=false:=by unfold aX iG iD; rw [hL,d5,d6,d7]; rfl
       rcases Nat.eq_zero_or_pos i with h0 | h0
       · have hz:((i:Int) == 0)=true:=by simp; omega
         simp (maxSteps:=1000000) -dsimp only [go_sem,hg,hc,aH,forall_eq',Int.toNat_natCast,d1,d3,d5,d6,hz,Bool.true_and,Bool.and_true,Bool.false_and,Bool.and_false,Bool.not_true,Bool.not_false]
         repeat' first | intro _ | apply And.intro
         all_goals first | omega | (rename_i h9; simp at h9; done) | skip
         all_goals exact bad (by rw [hL,hW]; exact .inl ⟨h0,rfl⟩)
       · have hz:((i:Int) == 0)=false:=by simp; omega
         simp (maxSteps:=1000000) -dsimp only [go_sem,hg,hc,aH,forall_eq',Int.toNat_natCast,d1,d3,d5,d6,d7,hz,Bool.true_and,Bool.and_true,Bool.false_and,Bool.not_false]
         repeat' first | intro _ | apply And.intro
         all_goals first | omega | (rename_i h9; simp at h9; done) | skip
         all_goals exact bad (by rw [hL,hW]; exact .inr rfl)
     · have d1:decide (97<=(c.toNat:Int))=false:=decide_eq_false (by omega)
       have d2:decide ((c.toNat:Int)<=122)=true:=decide_eq_true (by omega)
       have d3:decide (65<=(c.toNat:Int))=true:=decide_eq_true (by omega)
       have d4:decide ((c.toNat:Int)<=90)=true:=decide_eq_true (by omega)
       have d5:((c.toNat:Int) == 95)=false:=by simp; omega
       have d6:decide (48<=(c.toNat:Int))=true:=decide_eq_true (by omega)
       have d7:decide ((c.toNat:Int)<=57)=false:=decide_eq_false (by omega)
       have hL:bD c.toNat=true:=by unfold bD; rw [d1,d2,d3,d4]; rfl
       have hW:aX c=true:=by unfold aX iG iD; rw [hL,d5,d6,d7]; rfl
       rcases Nat.eq_zero_or_pos i with h0 | h0
       · have hz:((i:Int) == 0)=true:=by simp; omega
         simp (maxSteps:=1000000) -dsimp only [go_sem,hg,hc,aH,forall_eq',Int.toNat_natCast,d1,d3,d4,d5,d6,hz,Bool.true_and,Bool.and_true,Bool.false_and,Bool.and_false,Bool.not_true,Bool.not_false]
         repeat' first | intro _ | apply And.intro
         all_goals first | omega | (rename_i h9; simp at h9; done) | skip
         all_goals exact aE (i + 1) 0 (cB (by rw [hW]) (fun h3=>by rw [hL])) (by omega) (by simp -dsimp only [go_sem]; simp) (by simp [go_sem])
       · have hz:((i:Int) == 0)=false:=by simp; omega
         simp (maxSteps:=1000000) -dsimp only [go_sem,hg,hc,aH,forall_eq',Int.toNat_natCast,d1,d3,d4,d5,d6,d7,hz,Bool.true_and,Bool.and_true,Bool.false_and,Bool.not_false]
         repeat' first | intro _ | apply And.intro
         all_goals first | omega | (rename_i h9; simp at h9; done) | skip
         all_goals exact aE (i + 1) 0 (cB (by rw [hW]) (fun h3=>by rw [hL])) (by omega) (by simp -dsimp only [go_sem]; simp) (by simp [go_sem])
     · have d1:decide (97<=(c.toNat:Int))=false:=decide_eq_false (by omega)
       have d2:decide ((c.toNat:Int)<=122)=true:=decide_eq_true (by omega)
       have d3:decide (65<=(c.toNat:Int))=true:=decide_eq_true (by omega)
       have d4:decide ((c.toNat:Int)<=90)=false:=decide_eq_false (by omega)
       have d5:((c.toNat:Int) == 95)=false:=by simp; omega
       have d6:decide (48<=(c.toNat:Int))=true:=decide_eq_true (by omega)
       have d7:decide ((c.toNat:Int)<=57)=false:=decide_eq_false (by omega)
       have hL:bD c.toNat=false:=by unfold bD; rw [d1,d2,d3,d4]; rfl
       have hW:aX c=false:=by unfold aX iG iD; rw [hL,d5,d6,d7]; rfl
       rcases Nat.eq_zero_or_pos i with h0 | h0
       · have hz:((i:Int) == 0)=true:=by simp; omega
         simp (maxSteps:=1000000) -dsimp only [go_sem,hg,hc,aH,forall_eq',Int.toNat_natCast,d1,d3,d4,d5,d6,hz,Bool.true_and,Bool.and_true,Bool.false_and,Bool.and_false,Bool.not_true,Bool.not_false]
         repeat' first | intro _ | apply And.intro
         all_goals first | omega | (rename_i h9; simp at h9; done) | skip
         all_goals exact bad (by rw [hL,hW]; exact .inl ⟨h0,rfl⟩)
       · have hz:((i:Int) == 0)=false:=by simp; omega
         simp (maxSteps:=1000000) -dsimp only [go_sem,hg,hc,aH,forall_eq',Int.toNat_natCast,d1,d3,d4,d5,d6,d7,hz,Bool.true_and,Bool.and_true,Bool.false_and,Bool.not_false]
         repeat' first | intro _ | apply And.intro
         all_goals first | omega | (rename_i h9; simp at h9; done) | skip
         all_goals exact bad (by rw [hL,hW]; exact .inr rfl)
     · have d1:decide (97<=(c.toNat:Int))=false:=decide_eq_false (by omega)
       have d2:decide ((c.toNat:Int)<=122)=true:=decide_eq_true (by omega)
       have d3:decide (65<=(c.toNat:Int))=true:=decide_eq_true (by omega)
       have d4:decide ((c.toNat:Int)<=90)=false:=decide_eq_false (by omega)
       have d5:((c.toNat:Int) == 95)=true:=by simp; omega
       have d6:decide (48<=(c.toNat:Int))=true:=decide_eq_true (by omega)
       have d7:decide ((c.toNat:Int)<=57)=false:=decide_eq_false (by omega)
       have hL:bD c.toNat=false:=by unfold bD; rw [d1,d2,d3,d4]; rfl
       have hW:aX c=true:=by unfold aX iG iD; rw [hL,d5,d6,d7]; rfl
       rcases Nat.eq_zero_or_pos i with h0 | h0
       · have hz:((i:Int) == 0)=true:=by simp; omega
         simp (maxSteps:=1000000) -dsimp only [go_sem,hg,hc,aH,forall_eq',Int.toNat_natCast,d1,d3,d4,d5,hz,Bool.true_and,Bool.and_true,Bool.false_and,Bool.and_false,Bool.not_true,Bool.not_false]
         repeat' first | intro _ | apply And.intro
         all_goals first | omega | (rename_i h9; simp at h9; done) | skip
         all_goals exact bad (by rw [hL,hW]; exact .inl ⟨h0,rfl⟩)
       · have hz:((i:Int) == 0)=false:=by simp; omega
         simp (maxSteps:=1000000) -dsimp only [go_sem,hg,hc,aH,forall_eq',Int.toNat_natCast,d1,d3,d4,d5,hz,Bool.true_and,Bool.and_true,Bool.false_and,Bool.not_true,Bool.not_false]
         repeat' first | intro _ | apply And.intro
         all_goals first | omega | (rename_i h9; simp at h9; done) | skip
         all_goals exact aE (i + 1) 0 (cB (by rw [hW]) (fun h3=>by omega)) (by omega) (by simp -dsimp only [go_sem]; simp) (by simp [go_sem])
     · have d1:decide (97<=(c.toNat:Int))=false:=decide_eq_false (by omega)
       have d2:decide ((c.toNat:Int)<=122)=true:=decide_eq_true (by omega)
       have d3:decide (65<=(c.toNat:Int))=true:=decide_eq_true (by omega)
       have d4:decide ((c.toNat:Int)<=90)=false:=decide_eq_false (by omega)
       have d5:((c.toNat:Int) == 95)=false:=by simp; omega
       have d6:decide (48<=(c.toNat:Int))=true:=decide_eq_true (by omega)
       have d7:decide ((c.toNat:Int)<=57)=false:=decide_eq_false (by omega)
       have hL:bD c.toNat=false:=by unfold bD; rw [d1,d2,d3,d4]; rfl
       have hW:aX c=false:=by unfold aX iG iD; rw [hL,d5,d6,d7]; rfl
       rcases Nat.eq_zero_or_pos i with h0 | h0
       · have hz:((i:Int) == 0)=true:=by simp; omega
         simp (maxSteps:=1000000) -dsimp only [go_sem,hg,hc,aH,forall_eq',Int.toNat_natCast,d1,d3,d4,d5,d6,hz,Bool.true_and,Bool.and_true,Bool.false_and,Bool.and_false,Bool.not_true,Bool.not_false]
         repeat' first | intro _ | apply And.intro
         all_goals first | omega | (rename_i h9; simp at h9; done) | skip
         all_goals exact bad (by rw [hL,hW]; exact .inl ⟨h0,rfl⟩)
       · have hz:((i:Int) == 0)=false:=by simp; omega
         simp (maxSteps:=1000000) -dsimp only [go_sem,hg,hc,aH,forall_eq',Int.toNat_natCast,d1,d3,d4,d5,d6,d7,hz,Bool.true_and,Bool.and_true,Bool.false_and,Bool.not_false]
         repeat' first | intro _ | apply And.intro
         all_goals first | omega | (rename_i h9; simp at h9; done) | skip
         all_goals exact bad (by rw [hL,hW]; exact .inr rfl)
     · have d1:decide (97<=(c.toNat:Int))=true:=decide_eq_true (by omega)
       have d2:decide ((c.toNat:Int)<=122)=true:=decide_eq_true (by omega)
       have d3:decide (65<=(c.toNat:Int))=true:=decide_eq_true (by omega)
       have d4:decide ((c.toNat:Int)<=90)=false:=decide_eq_false (by omega)
       have d5:((c.toNat:Int) == 95)=false:=by simp; omega
       have d6:decide (48<=(c.toNat:Int))=true:=decide_eq_true (by omega)
       have d7:decide ((c.toNat:Int)<=57)=false:=decide_eq_false (by omega)
       have hL:bD c.toNat=true:=by unfold bD; rw [d1,d2,d3,d4]; rfl
       have hW:aX c=true:=by unfold aX iG iD; rw [hL,d5,d6,d7]; rfl
       rcases Nat.eq_zero_or_pos i with h0 | h0
       · have hz:((i:Int) == 0)=true:=by simp; omega
         simp (maxSteps:=1000000) -dsimp only [go_sem,hg,hc,aH,forall_eq',Int.toNat_natCast,d1,d2,d5,d6,hz,Bool.true_and,Bool.and_true,Bool.false_and,Bool.and_false,Bool.not_true,Bool.not_false]
         repeat' first | intro _ | apply And.intro
         all_goals first | omega | (rename_i h9; simp at h9; done) | skip
         all_goals exact aE (i + 1) 0 (cB (by rw [hW]) (fun h3=>by rw [hL])) (by omega) (by simp -dsimp only [go_sem]; simp) (by simp [go_sem])
       · have hz:((i:Int) == 0)=false:=by simp; omega
         simp (maxSteps:=1000000) -dsimp only [go_sem,hg,hc,aH,forall_eq',Int.toNat_natCast,d1,d2,d5,d6,d7,hz,Bool.true_and,Bool.and_true,Bool.false_and,Bool.not_true,Bool.not_false]
         repeat' first | intro _ | apply And.intro
         all_goals first | omega | (rename_i h9; simp at h9; done) | skip
         all_goals exact aE (i + 1) 0 (cB (by rw [hW]) (fun h3=>by rw [hL])) (by omega) (by simp -dsimp only [go_sem]; simp) (by simp [go_sem])
     · have d1:decide (97<=(c.toNat:Int))=true:=decide_eq_true (by omega)
       have d2:decide ((c.toNat:Int)<=122)=false:=decide_eq_false (by omega)
       have d3:decide (65<=(c.toNat:Int))=true:=decide_eq_true (by omega)
       have d4:decide ((c.toNat:Int)<=90)=false:=decide_eq_false (by omega)
       have d5:((c.toNat:Int) == 95)=false:=by simp; omega
       have d6:decide (48<=(c.toNat:Int))=true:=decide_eq_true (by omega)
       have d7:decide ((c.toNat:Int)<=57)=false:=decide_eq_false (by omega)
       have hL:bD c.toNat=false:=by unfold bD; rw [d1,d2,d3,d4]; rfl
       have hW:aX c=false:=by unfold aX iG iD; rw [hL,d5,d6,d7]; rfl
       rcases Nat.eq_zero_or_pos i with h0 | h0
       · have hz:((i:Int) == 0)=true:=by simp; omega
         simp (maxSteps:=1000000) -dsimp only [go_sem,hg,hc,aH,forall_eq',Int.toNat_natCast,d1,d2,d3,d4,d5,d6,hz,Bool.true_and,Bool.and_true,Bool.and_false,Bool.not_true,Bool.not_false]
         repeat' first | intro _ | apply And.intro
         all_goals first | omega | (rename_i h9; simp at h9; done) | skip
         all_goals exact bad (by rw [hL,hW]; exact .inl ⟨h0,rfl⟩)
       · have hz:((i:Int) == 0)=false:=by simp; omega
         simp (maxSteps:=1000000) -dsimp only [go_sem,hg,hc,aH,forall_eq',Int.toNat_natCast,d1,d2,d3,d4,d5,d6,d7,hz,Bool.true_and,Bool.and_true,Bool.not_false]
         repeat' first | intro _ | apply And.intro
         all_goals first | omega | (rename_i h9; simp at h9; done) | skip
         all_goals exact bad (by rw [hL,hW]; exact .inr rfl)
   · have hg:decide ((i:Int) < ((bl s).length:Int))=false:=by simp; omega
     obtain rfl:i=(bl s).length:=by omega
     obtain ⟨c,hc⟩:∃ c,(bl s)[0]? = some c:=⟨_,aU hl0⟩
     simp (maxSteps:=1000000) -dsimp only [go_sem,hg]
     refine dH hK ?_
     rw [ED hc hl (hb hl0 c hc) fun j x hx=>ha j x (a6.1 hx).1 hx]
theorem IC:Meets Tryz.prog 85 (xM fun l=>.bool (vG l)).sp:=by
 refine aF Tryz.func85 aLB 1 (by rw [Tryz.ntmps85]; decide) (aJ wU (aA _)) s7 ?_
 rintro xs H K ⟨⟨h,rfl⟩,hK⟩
 obtain ⟨s,rfl⟩:=jG h
 have hK':K (.va (.c1 (.vl (.bool (vG (bl s)))))) []:=hK
 clear hK h
 unfold vG at hK'
 cases hn:cF (bl s) with
 | false=>
  rw [hn] at hK'
  simp -dsimp only [go_sem,UX,T4,hn]
  exact .done hK'
 | true=>
  cases hl:bl s with
  | nil=>rw [hl] at hn; cases hn
  | cons c r=>
   rw [hl] at hn hK'
   rw [hn] at hK'
   simp -dsimp only [go_sem,UX,T4,hl,hn]
   refine ⟨by omega,fun d hd=>⟨fun _=>by omega,fun e he=>?_⟩⟩
   subst hd
   cases hc:decide (65<=(c.toNat:Int)) with
   | false=>simp only [hc,Bool.true_and,Bool.false_and] at hK'; exact .done hK'
   | true=>
    obtain rfl:=he hc
    simp only [hc,Bool.true_and] at hK'; exact .done hK'
theorem aA3:Meets Tryz.prog 116 (rT eW C.ty fun t=>.bool ((t.e.length:Int) == 0)).sp:=by
 refine aF Tryz.func116 aG1 1 (by rw [Tryz.ntmps116]; decide) (aA _) o8 ?_
 rintro av H K ⟨⟨h,rfl⟩,hK⟩
 obtain ⟨_,rfl,t,rfl,ht⟩:=gL h
 have hK:K (bS ((t.e.length:Int) == 0)) []:=by
  have:(rT eW C.ty fun t=>.bool ((t.e.length:Int) == 0)).val [.va (.gs (aL t))]=bA ((t.e.length:Int) == 0):=by simp -dsimp only [go_sem]
  rw [this] at hK; exact hK
 simp (maxSteps:=1000000) -dsimp only [go_sem,aM,WK,XD]
 exact .sel [] (by simp) (by simp) rfl (.done (by simpa [go_sem] using hK))
def EO:List S->Prop:=fun av=>match av with
 | [.va (.c1 (.fz rs)),.va (.c1 (.vl (.int .i64 k))),.va (.c1 (.vl (.string _)))]=>B5 rs/\0<=k/\k<=9223372036854775807
 | _=>False
theorem p9 {av:List S} (h:EO av):∃ (l:List ByteArray) (n:Nat) (x:ByteArray),av=[.va (.c1 (.fz (l.map bL))),iS .i64 n,tS x]/\l.length<=9223372036854775807/\(n:Int)<=9223372036854775807:=by
 unfold EO at h
 split at h
 · obtain ⟨⟨l,rfl,h1⟩,h2,h3⟩:=h
   rename_i k x
   exact ⟨l,k.toNat,x,by rw [Int.toNat_of_nonneg h2],h1,by omega⟩
 · exact h.elim
noncomputable def Y4:List S->A:=fun av=>match av with
 | [.va (.c1 (.fz rs)),.va (.c1 (.vl (.int .i64 k))),.va (.c1 (.vl (.string x)))]=>bA (cU ((rs.map C.bs).take k.toNat) x)
 | _=>.gs []
noncomputable def inFn:Fun:=⟨EO,Y4,fun av h=>by obtain ⟨l,n,x,rfl,_⟩:=p9 h; trivial⟩
theorem SI:∀ av H K,inFn.sp av H K->av.length=3:=fun av H K h=>by obtain ⟨l,n,x,rfl,_⟩:=p9 h.1.1; rfl
attribute [go_sem] inFn EO Y4
theorem SP:Meets Tryz.prog 50 inFn.sp:=by
 refine aF Tryz.func50 aOS 3 (by rw [Tryz.ntmps50]; decide) (aA _) SI ?_
 rintro av H K ⟨⟨h,rfl⟩,hK⟩
 obtain ⟨l,n,x,rfl,hl,hn⟩:=p9 h
 have hK:K (bS (cU (l.take n) x)) []:=by
  have:inFn.val [.va (.c1 (.fz (l.map bL))),iS .i64 n,tS x]=bA (cU (l.take n) x):=by simp -dsimp only [go_sem,Int.toNat_natCast]
  rw [this] at hK; exact hK
 clear h
 simp (maxSteps:=1000000) -dsimp only [go_sem,aBK,aEC]
 refine aN (α:=Nat) (fun i=>[(0,.va (.c1 (.fz (l.map bL)))),(1,iS .i64 n),(2,tS x),(7,iS .i64 i)]) (fun _=>[])
  (fun i=>i<=(l.take n).length/\cU ((l.take n).drop i) x=cU (l.take n) x) (fun i=>l.length - i) 0 0 ⟨Nat.zero_le _,rfl⟩ ?_ ?_ ?_
 · simp [go_sem]
 · simp [go_sem]
 rintro i ⟨hi,ho⟩
 have hlt0:(l.take n).length=min n l.length:=by simp
 rcases bC i (l.take n).length with hlt | hge
 · have g1:decide ((i:Int) < (n:Int))=true:=by simp; omega
   have g2:decide ((i:Int) < (l.length:Int))=true:=by simp; omega
   obtain ⟨y,hx⟩:∃ y,l[i]? = some y:=⟨_,aU (by omega)⟩
   have hx':(l.take n)[i]? = some y:=by rw [List.getElem?_take,if_pos (by omega)]; exact hx
   have q2:=aV (row:=bL) hx
   rw [cU,gQ hx'] at ho
   simp (maxSteps:=1000000) -dsimp only [go_sem,g1,g2,↓q2,eI]
   have hsy:decide (y=x)=decide (x=y):=by simp [eq_comm]
   refine ⟨by omega,fun hc=>?_,fun hc=>⟨by omega,aE (i + 1) 0 ⟨by omega,?_⟩ (by omega) ?_ ?_⟩⟩
   · rw [<-hsy,hc,Bool.true_or] at ho
     rw [<-ho] at hK
     exact .done hK
   · rw [<-hsy,hc,Bool.false_or] at ho
     exact ho
   · simp [go_sem]
   · simp [go_sem]
 · obtain rfl:i=(l.take n).length:=by omega
   rw [cU,pE] at ho
   rw [<-ho] at hK
   generalize hm:(l.take n).length=m at *
   rcases bC m n with h1 | h1
   · have g1:decide ((m:Int) < (n:Int))=true:=by simp; omega
     have g2:decide ((m:Int) < (l.length:Int))=false:=by simp; omega
     simp (maxSteps:=1000000) -dsimp only [go_sem,g1,g2]
     exact .done hK
   · have g1:decide ((m:Int) < (n:Int))=false:=by simp; omega
     simp (maxSteps:=1000000) -dsimp only [go_sem,g1]
     exact .done hK
theorem F0:Meets Tryz.prog 69 xQ:=by
 refine aF Tryz.func69 aNG 2 (by rw [Tryz.ntmps69]; decide) (aA _) (fun av H K h=>by obtain ⟨_,_,rfl,_⟩:=h; rfl) ?_
 rintro av H K ⟨s,n,rfl,rfl,hs,hK⟩
 rw [<-yT] at hK
 have hl:=hs.ok.ls
 simp -dsimp only [go_sem,aC,aEG,aA6]
 refine aN (α:=Nat) (fun i=>[(1,tS n),(2,.va (.c1 (.pt 0 0))),(4,.va (.c1 (.pt 1 0))),(6,iS .i64 i)]) (fun _=>[.cells (aC s) 25,.cells [.vl (.string (mk [])),.vl (.slice none 0 0)] 95])
  (fun i=>i<=s.ss.length/\fS (s.ss.drop i) n=fS s.ss n) (fun i=>s.ss.length - i) 0 2 ⟨Nat.zero_le _,rfl⟩ ?_ ?_ ?_
 · simp [go_sem]
 · simp [go_sem,aC]
 rintro i ⟨hi,ho⟩
 rcases bC i s.ss.length with hlt | hge
 · have hg:decide ((i:Int) < (s.ss.length:Int))=true:=by simp; omega
   obtain ⟨t,hx⟩:∃ e,s.ss[i]? = some e:=⟨_,aU hlt⟩
   have q2:=aV (row:=aP) hx
   rw [fS,nR hx] at ho
   cases hc:decide (t.nm=n) with
   | true=>
    rw [hc,aI] at ho
    rw [<-ho] at hK
    simp (maxSteps:=1000000) -dsimp only [go_sem,hg,↓q2,aP,aC,eI,hc]
    refine ⟨by omega,by omega,.sel [] (by simp) (by simp) rfl (.done (by simpa [go_sem,aP] using hK))⟩
   | false=>
    rw [hc,aG] at ho
    simp (maxSteps:=1000000) -dsimp only [go_sem,hg,↓q2,aP,aC,eI,hc]
    refine ⟨by omega,by omega,aE (i + 1) 2 ⟨by omega,ho⟩ (by omega) ?_ ?_⟩
    · simp [go_sem]
    · simp [go_sem,aC]
 · have hg:decide ((i:Int) < (s.ss.length:Int))=false:=by simp; omega
   obtain rfl:i=s.ss.length:=by omega
   rw [List.drop_length] at ho
   rw [<-ho] at hK
   simp -dsimp only [go_sem,hg,aC]
   exact .sel [] (by simp) (by simp) rfl (.done (by simpa [go_sem,fS,J1] using hK))
def NJ:W.Spec:=fun av H K=>∃ (s:Sc) (n:ByteArray),av=[.va (.gs (aC s)),tS n]/\H=[]/\s.fit/\K (.tu [.gs (bI ((fA s.es n).getD default)),bA (fO s.es n)]) []
theorem m5 {s:Sc} {n:ByteArray} {K:S->Hp->Prop} (h:s.fit) (hK:K (.tu [.gs (bI ((fA s.es n).getD default)),bA (fO s.es n)]) []):NJ [.va (.gs (aC s)),tS n] [] K:=⟨s,n,rfl,rfl,h,hK⟩
theorem MA:bI default=[.vl (.string (mk [])),.fz [],.fz []]:=rfl
theorem QC:Meets Tryz.prog 76 NJ:=by
 refine aF Tryz.func76 aMP 2 (by rw [Tryz.ntmps76]; decide) (aA _) (fun av H K h=>by obtain ⟨_,_,rfl,_⟩:=h; rfl) ?_
 rintro av H K ⟨s,n,rfl,rfl,hs,hK⟩
 rw [<-B9] at hK
 have hl:=hs.ok.le
 simp -dsimp only [go_sem,aC,aET,aES]
 refine aN (α:=Nat) (fun i=>[(1,tS n),(2,.va (.c1 (.pt 0 0))),(4,.va (.c1 (.pt 1 0))),(6,iS .i64 i)]) (fun _=>[.cells (aC s) 25,.cells [.vl (.string (mk [])),.vl (.slice none 0 0),.vl (.slice none 0 0)] 92])
  (fun i=>i<=s.es.length/\fA (s.es.drop i) n=fA s.es n) (fun i=>s.es.length - i) 0 2 ⟨Nat.zero_le _,rfl⟩ ?_ ?_ ?_
 · simp [go_sem]
 · simp [go_sem,aC]
 rintro i ⟨hi,ho⟩
 rcases bC i s.es.length with hlt | hge
 · have hg:decide ((i:Int) < (s.es.length:Int))=true:=by simp; omega
   obtain ⟨t,hx⟩:∃ e,s.es[i]? = some e:=⟨_,aU hlt⟩
   have q2:=aV (row:=bI) hx
   rw [fA,nR hx] at ho
   cases hc:decide (t.nm=n) with
   | true=>
    rw [hc,aI] at ho
    rw [<-ho] at hK
    simp (maxSteps:=1000000) -dsimp only [go_sem,hg,↓q2,bI,aC,eI,hc]
    refine ⟨by omega,by omega,.sel [] (by simp) (by simp) rfl (.done (by simpa [go_sem,bI] using hK))⟩
   | false=>
    rw [hc,aG] at ho
    simp (maxSteps:=1000000) -dsimp only [go_sem,hg,↓q2,bI,aC,eI,hc]
    refine ⟨by omega,by omega,aE (i + 1) 2 ⟨by omega,ho⟩ (by omega) ?_ ?_⟩
    · simp [go_sem]
    · simp [go_sem,aC]
 · have hg:decide ((i:Int) < (s.es.length:Int))=false:=by simp; omega
   obtain rfl:i=s.es.length:=by omega
   rw [List.drop_length] at ho
   rw [<-ho] at hK
   simp -dsimp only [go_sem,hg,aC]
   exact .sel [] (by simp) (by simp) rfl (.done (by simpa [go_sem,fA,MA] using hK))
end Go.Proofs.YtkpohmhenegkiaaGreatDoor
namespace Go.Proofs
open Go.Shelf
def Tryz.lays16_ren:Go.Shelf.Ren:=⟨fun | 16=>126 | n=>n,fun | 24=>89 | n=>n,fun | n=>n⟩
theorem Tryz.lays16:Go.Proofs.Lays2.n16 Tryz.prog Tryz.lays16_ren:={
 mixed:=by kernel_rfl
 f16:=Tryz.func126.trans (congrArg some (by kernel_rfl))
 t4:=Tryz.underlying4
 a4:=Tryz.isAgg4
 z4:=Tryz.sizeOf4
 v4:=Tryz.zeroValue4
 t9:=Tryz.underlying9
 a9:=Tryz.isAgg9
 z9:=Tryz.sizeOf9
 v9:=Tryz.zeroValue9
 t24:=Tryz.underlying89
 a24:=Tryz.isAgg89
 z24:=Tryz.sizeOf89
 v24:=Tryz.zeroValue89
 i9:=by kernel_rfl }
def Tryz.lays15_ren:Go.Shelf.Ren:=⟨fun | 15=>127 | n=>n,fun | 22=>90 | n=>n,fun | n=>n⟩
theorem Tryz.lays15:Go.Proofs.Lays2.n15 Tryz.prog Tryz.lays15_ren:={
 mixed:=by kernel_rfl
 f15:=Tryz.func127.trans (congrArg some (by kernel_rfl))
 t3:=Tryz.underlying3
 a3:=Tryz.isAgg3
 z3:=Tryz.sizeOf3
 v3:=Tryz.zeroValue3
 t4:=Tryz.underlying4
 a4:=Tryz.isAgg4
 z4:=Tryz.sizeOf4
 v4:=Tryz.zeroValue4
 t22:=Tryz.underlying90
 a22:=Tryz.isAgg90
 z22:=Tryz.sizeOf90
 v22:=Tryz.zeroValue90
 i3:=by kernel_rfl }
end Go.Proofs
namespace Go.Proofs.YtkpohmhenegkiaaGreatDoor
open Go.W Go.RowKit
theorem ZD {X:Ctx} {E:Es} {ro:RO} {w w':World} (h:Rel X E ro w) {blk:B} {g:Gb} (hb:∀ k,k < w.heap.size->w'.heap[k]? = w.heap[k]?) (hsz:w.heap.size<=w'.heap.size)
 (h1:w'.os=w.os) (h2:w'.tape=w.tape) (h3:w'.output=w.output) (hob:∀ b,g.ob=some b->w.heap.size<=b) (hon:blk.On (gm (E ++ [(g,blk)])) ro w' g):Rel X (E ++ [(g,blk)]) ro w':=by
 have hext:GExt (gm E) (gm (E ++ [(g,blk)])):=cO _
 have hget:∀ (n:Nat) (y:Gb × B),(E ++ [(g,blk)])[n]? = some y->(n=E.length/\y=(g,blk))\/(n < E.length/\E[n]? = some y):=by
  intro n y hy
  rw [List.getElem?_append] at hy
  split at hy
  · exact .inr ⟨by assumption,hy⟩
  · have:n - E.length=0:=by
     rcases Nat.eq_zero_or_pos (n - E.length) with h0 | h0
     · exact h0
     · rw [List.getElem?_eq_none (by simp; omega)] at hy; cases hy
    rw [this] at hy
    exact .inl ⟨by omega,by simpa using hy.symm⟩
 have old:∀ (n k:Nat) (gn:Gb) (bk:B),E[n]? = some (gn,bk)->gn.ob=some k->bk.live=true->k < w.heap.size:=fun n k gn bk hy hk hl=>(h.own n _ bk hy).lt hl hk
 refine ⟨fun n g' bk hy=>?_,fun n m gn gm bn bm k hy hz en em ln lm=>?_,fun k off c hc n gn bk hy en=>?_,fun k off c hc=>?_,h.ro0,h.rob,fun n k gn bk hy en ln=>?_,h.gx.trans hext,Nat.le_trans h.sz hsz,fun k hk hp=>?_,by rw [h1]; exact h.os,by rw [h2]; exact h.tape,by rw [h3]; exact h.output⟩
 · rcases hget n _ hy with ⟨rfl,he⟩ | ⟨hlt,hy'⟩
   · simp only [Prod.mk.injEq] at he; obtain ⟨rfl,rfl⟩:=he; exact hon
   · by_cases hlv:bk.live=true
     · exact (h.own n g' bk hy').same hext (Ext.refl _) fun k hk=>hb k (old n k g' bk hy' hk hlv)
     · cases bk<;>simp [B.live] at hlv; trivial
 · rcases hget n _ hy with ⟨rfl,he⟩ | ⟨hlt,hy'⟩<;>rcases hget m _ hz with ⟨rfl,he2⟩ | ⟨hlt2,hz'⟩
   · rfl
   · simp only [Prod.mk.injEq] at he; obtain ⟨rfl,rfl⟩:=he; have:=old m k gm bm hz' em lm; have:=hob k en; omega
   · simp only [Prod.mk.injEq] at he2; obtain ⟨rfl,rfl⟩:=he2; have:=old n k gn bn hy' en ln; have:=hob k em; omega
   · exact h.inj n m gn gm bn bm k hy' hz' en em ln lm
 · rcases hget n _ hy with ⟨rfl,he⟩ | ⟨hlt,hy'⟩
   · simp only [Prod.mk.injEq] at he; obtain ⟨rfl,rfl⟩:=he; have:=h.cell_lt hc; have:=hob k en; omega
   · exact h.apart k off c hc n gn bk hy' en
 · have:=h.rd k off c hc
   rw [<-this]
   simp only [World.cell?,hb k (h.cell_lt hc)]
 · rcases hget n _ hy with ⟨rfl,he⟩ | ⟨hlt,hy'⟩
   · simp only [Prod.mk.injEq] at he; obtain ⟨rfl,rfl⟩:=he; have:=hob k en; have:=h.sz; exact .inl (by omega)
   · exact h.par n k gn bk hy' en ln
 · rw [hb k (by have:=h.sz; omega)]
   exact h.keep k hk hp
theorem LF {X:Ctx} {ro:RO} {w w':World} (h:Rel X [] ro w) (hX:X.g0.length=0) {T:TypeId} {v:Value} {cs:List Value} (hne:cs ≠ []) (_hone:∀ u ∈ cs,u.oneCell'=true) (ho:w'.ownsRow w.heap.size T 1 v cs.length cs) (hb:Below w.heap.size w w') {K:S->Hp->Prop} (hK:K (.va (.c1 (.fz (cs.map fun u=>[C.vl u])))) []) :
 ∃ r' E' ro',K r' (hp E')/\r'.rel (gm E') ro' v/\Rel X E' ro' w':=by
 have hlen:0 < cs.length:=List.length_pos_iff.2 hne
 obtain ⟨h1,h2⟩:=ho
 rcases h2 with ⟨_,h0⟩ | ⟨b,cap,cur,rfl,hbb,hcell,hcap,hmax,hcs,htk⟩
 · omega
 have hfl:(cs.map fun u=>[C.vl u]).flatten=cs.map C.vl:=by
  clear h1 hlen hcap htk hK hne _hone
  induction cs with
  | nil=>rfl
  | cons x l ih=>rw [List.map_cons,List.flatten_cons,ih]; rfl
 let g:Gb:=⟨some b,true,cs.length,cap,T,cs⟩
 have hR:Rel X ([] ++ [(g,.row (cs.map fun u=>[C.vl u]) T 1)]) ro w':=by
  refine ZD h (fun k hk=>hb.block k hk) hb.size hb.os hb.tape hb.output (fun b' hb'=>by cases hb'; exact hbb) ⟨rfl,by simp [g],fun x hx=>?_,fun c hc=>?_,⟨by simp [g],.inr ⟨b,cap,cur,?_,Nat.zero_le _,hcell,by simp; exact hcap,hmax,hcs,?_⟩⟩,?_,fun b' _=>(by show 0 < cap; omega)⟩
  · obtain ⟨y,_,rfl⟩:=List.mem_map.1 hx; rfl
  · rw [hfl] at hc; obtain ⟨y,_,rfl⟩:=List.mem_map.1 hc; rfl
  · simp [bB,g]
  · rw [List.length_map]; exact htk
  · rw [hfl]
    refine ⟨by simp [g],fun i x y hx hy=>?_⟩
    rw [List.getElem?_map] at hx
    have hy:cs[i]? = some y:=hy
    rw [hy] at hx
    cases hx; rfl
 refine DY (X:=X) (k0:=0) hX (r:=.va (.c1 (.sl 0 (cs.map fun u=>[C.vl u]).length))) (.pub 0 _ T 1 (by rfl) (.sel [] (by simp) (by simp [cP]) rfl (.done ?_))) rfl ?_ hR
 · simp -dsimp only [go_sem,cP]; simpa using hK
 · refine ⟨g,rfl,rfl,by simp [g],⟨_,_,_,rfl⟩,fun _=>?_⟩
   simp [g,bB]
theorem n9 {X:Ctx} {ro:RO} {w w':World} (h:Rel X [] ro w) {o:Option Addr} {c:Nat} (hb:Below w.heap.size w w') {K:S->Hp->Prop} (hK:K (.va (.c1 (.fz []))) []) :
 ∃ r' E' ro',K r' (hp E')/\r'.rel (gm E') ro' (.slice o 0 c)/\Rel X E' ro' w':=
 ⟨.va (.c1 (.fz [])),[],ro,hK,FzR.mk (ro:=ro) [] 1 none o (fun h=>absurd rfl h) c (fun _=>undef) (by simp) (Nat.zero_le _) (by simp) (by simp) (by simp) (by simp) (by simp),h.aside (fun k hk=>hb.block k hk) hb.size hb.os hb.tape hb.output⟩
def V1:W.Spec:=fun av H K=>∃ l:List ByteArray,av=[.va (.c1 (.fz (l.map bL)))]/\H=[]/\l.length<=1000000000/\K (.va (.c1 (.fz (l.map bL)))) []
theorem aAW {l:List ByteArray} {K:S->Hp->Prop} (h:l.length<=1000000000) (hK:K (.va (.c1 (.fz (l.map bL)))) []):V1 [.va (.c1 (.fz (l.map bL)))] [] K:=⟨l,rfl,rfl,h,hK⟩
theorem SG (l:List ByteArray):(l.map bL).flatten=(l.map Value.string).map C.vl:=by
 induction l with
 | nil=>rfl
 | cons x l ih=>rw [List.map_cons,List.flatten_cons,ih]; rfl
theorem R6 (l:List ByteArray):(l.map Value.string).map (fun u=>[C.vl u])=l.map bL:=by rw [List.map_map]; rfl
theorem aM6:Meets Tryz.prog 126 V1:=by
 refine ⟨by kernel_rfl,fun av vs E ro w K hlen hrel hR hs _=>?_⟩
 obtain ⟨l,rfl,hH,hl,hK⟩:=hs
 match E,hH with
 | [],_=>
  match vs,hlen with
  | [v0],_=>
   have r0:FzR ro (l.map bL) v0:=hrel 0 _ _ rfl rfl
   cases hl0:l with
   | nil=>
    subst hl0
    generalize hx:([]:List ByteArray).map bL=xs at r0
    cases r0 with
    | mk xs sz o oa hoa cap us hz hc ho h1 h2 h3 h4=>
     subst hx
     have hK:K (.va (.c1 (.fz []))) []:=hK
     cases oa with
     | none=>
      refine (Any.slices_Clone_string_nil Tryz.lays16 0 cap w).mono ?_
      rintro e w' ⟨rfl,rfl⟩
      obtain ⟨r',E',ro',a1,a2,a3⟩:=n9 (o:=none) (c:=0) hR (Below.refl _ _) hK
      exact ⟨r',_,E',ro',rfl,a2,a1,a3⟩
     | some a=>
      refine (Any.slices_Clone_string_zero Tryz.lays16 a cap w).mono ?_
      rintro e w' ⟨v',rfl,hown,_,hb⟩
      obtain ⟨o',c',rfl⟩:∃ o' c',v'=.slice o' 0 c':=by
       rcases hown.2 with ⟨rfl,_⟩ | ⟨b,c',cur,rfl,_⟩
       · exact ⟨none,0,rfl⟩
       · exact ⟨_,c',rfl⟩
      obtain ⟨r',E',ro',a1,a2,a3⟩:=n9 (o:=o') (c:=c') hR hb hK
      exact ⟨r',_,E',ro',rfl,a2,a1,a3⟩
   | cons x0 lt=>
    have hne:l ≠ []:=by rw [hl0]; exact List.cons_ne_nil _ _
    clear hl0
    generalize hx:l.map bL=xs at r0
    cases r0 with
    | mk xs sz o oa hoa cap us hz hc ho h1 h2 h3 h4=>
     subst hx
     have hne2:l.map bL ≠ []:=by simpa using hne
     obtain ⟨⟨b,off⟩,rfl⟩:=Option.isSome_iff_exists.1 (ho hne2)
     obtain rfl:=hoa hne2
     have hcell:∀ j,j < l.length->w.cell? ⟨b,off + j,none⟩=some (Value.string (l.getD j ByteArray.empty)):=fun j hj=>by
      have hf:(l.map bL).flatten[j]? = some (.vl (Value.string (l.getD j ByteArray.empty))):=by
       rw [SG,List.getElem?_map,List.getElem?_map,aU hj]
       simp [hj]
      have e1:=h1 j _ hf
      have e2:=h2 j _ hf
      rw [e2] at e1
      exact hR.rd b (off + j) _ e1
     have key:=Any.slices_Clone_string Tryz.lays16 b off l.length cap l w (Nat.le_refl _) (by omega) hcell
     rw [List.take_length] at key
     rw [List.length_map]
     refine key.mono ?_
     rintro e w' ⟨v',rfl,hown,_,hb⟩
     rw [<-List.length_map (f:=Value.string)] at hown
     obtain ⟨r',E',ro',a1,a2,a3⟩:=LF hR rfl (cs:=l.map Value.string) (by simpa using hne) (fun u hu=>by obtain ⟨y,_,rfl⟩:=List.mem_map.1 hu; rfl) hown hb (by rw [R6]; exact hK)
     exact ⟨r',_,E',ro',rfl,a2,a1,a3⟩
def X3:W.Spec:=fun av H K=>∃ l:List Int,av=[.va (.c1 (.fz (l.map cL)))]/\H=[]/\l.length<=1000000000/\K (.va (.c1 (.fz (l.map cL)))) []
theorem Y6 {l:List Int} {K:S->Hp->Prop} (h:l.length<=1000000000) (hK:K (.va (.c1 (.fz (l.map cL)))) []):X3 [.va (.c1 (.fz (l.map cL)))] [] K:=⟨l,rfl,rfl,h,hK⟩
theorem U6 (l:List Int):(l.map cL).flatten=(l.map (Value.int .i64)).map C.vl:=by
 induction l with
 | nil=>rfl
 | cons x l ih=>rw [List.map_cons,List.flatten_cons,ih]; rfl
theorem UW (l:List Int):(l.map (Value.int .i64)).map (fun u=>[C.vl u])=l.map cL:=by rw [List.map_map]; rfl
theorem aNA:Meets Tryz.prog 127 X3:=by
 refine ⟨by kernel_rfl,fun av vs E ro w K hlen hrel hR hs _=>?_⟩
 obtain ⟨l,rfl,hH,hl,hK⟩:=hs
 match E,hH with
 | [],_=>
  match vs,hlen with
  | [v0],_=>
   have r0:FzR ro (l.map cL) v0:=hrel 0 _ _ rfl rfl
   cases hl0:l with
   | nil=>
    subst hl0
    generalize hx:([]:List Int).map cL=xs at r0
    cases r0 with
    | mk xs sz o oa hoa cap us hz hc ho h1 h2 h3 h4=>
     subst hx
     have hK:K (.va (.c1 (.fz []))) []:=hK
     cases oa with
     | none=>
      refine (Any.slices_Clone_int_nil Tryz.lays15 0 cap w).mono ?_
      rintro e w' ⟨rfl,rfl⟩
      obtain ⟨r',E',ro',a1,a2,a3⟩:=n9 (o:=none) (c:=0) hR (Below.refl _ _) hK
      exact ⟨r',_,E',ro',rfl,a2,a1,a3⟩
     | some a=>
      refine (Any.slices_Clone_int_zero Tryz.lays15 a cap w).mono ?_
      rintro e w' ⟨v',rfl,hown,_,hb⟩
      obtain ⟨o',c',rfl⟩:∃ o' c',v'=.slice o' 0 c':=by
       rcases hown.2 with ⟨rfl,_⟩ | ⟨b,c',cur,rfl,_⟩
       · exact ⟨none,0,rfl⟩
       · exact ⟨_,c',rfl⟩
      obtain ⟨r',E',ro',a1,a2,a3⟩:=n9 (o:=o') (c:=c') hR hb hK
      exact ⟨r',_,E',ro',rfl,a2,a1,a3⟩
   | cons x0 lt=>
    have hne:l ≠ []:=by rw [hl0]; exact List.cons_ne_nil _ _
    clear hl0
    generalize hx:l.map cL=xs at r0
    cases r0 with
    | mk xs sz o oa hoa cap us hz hc ho h1 h2 h3 h4=>
     subst hx
     have hne2:l.map cL ≠ []:=by simpa using hne
     obtain ⟨⟨b,off⟩,rfl⟩:=Option.isSome_iff_exists.1 (ho hne2)
     obtain rfl:=hoa hne2
     have hcell:∀ j,j < l.length->w.cell? ⟨b,off + j,none⟩=some (Value.int .i64 (l.getD j 0)):=fun j hj=>by
      have hf:(l.map cL).flatten[j]? = some (.vl (Value.int .i64 (l.getD j 0))):=by
       rw [U6,List.getElem?_map,List.getElem?_map,aU hj]
       simp [hj]
      have e1:=h1 j _ hf
      have e2:=h2 j _ hf
      rw [e2] at e1
      exact hR.rd b (off + j) _ e1
     have key:=Any.slices_Clone_int Tryz.lays15 b off l.length cap l w (Nat.le_refl _) (by omega) hcell
     rw [List.take_length] at key
     rw [List.length_map]
     refine key.mono ?_
     rintro e w' ⟨v',rfl,hown,_,hb⟩
     rw [<-List.length_map (f:=(Value.int .i64))] at hown
     obtain ⟨r',E',ro',a1,a2,a3⟩:=LF hR rfl (cs:=l.map (Value.int .i64)) (by simpa using hne) (fun u hu=>by obtain ⟨y,_,rfl⟩:=List.mem_map.1 hu; rfl) hown hb (by rw [UW]; exact hK)
     exact ⟨r',_,E',ro',rfl,a2,a1,a3⟩
end Go.Proofs.YtkpohmhenegkiaaGreatDoor
namespace Go.Proofs.YtkpohmhenegkiaaGreatDoor
open Go.W
theorem zX:Meets Tryz.prog 98 NJ:=by
 refine aF Tryz.func98 aNJ 2 (by rw [Tryz.ntmps98]; decide) (aB aM6 (aB aNA (aA _))) (fun av H K h=>by obtain ⟨_,_,rfl,_⟩:=h; rfl) ?_
 rintro av H K ⟨s,n,rfl,rfl,hs,hK⟩
 rw [<-B9] at hK
 have hl:=hs.ok.le
 simp -dsimp only [go_sem,aC,aDI,aDV]
 refine aN (α:=Nat) (fun i=>[(1,tS n),(2,.va (.c1 (.pt 0 0))),(4,.va (.c1 (.pt 1 0))),(9,.va (.c1 (.fz (s.es.map bI)))),(10,iS .i64 s.es.length),(11,iS .i64 i)]) (fun _=>[.cells (aC s) 25,.cells [.vl (.string (mk [])),.vl (.slice none 0 0),.vl (.slice none 0 0)] 92])
  (fun i=>i<=s.es.length/\fA (s.es.drop i) n=fA s.es n) (fun i=>s.es.length - i) 0 2 ⟨Nat.zero_le _,rfl⟩ ?_ ?_ ?_
 · simp [go_sem]
 · simp [go_sem,aC]
 rintro i ⟨hi,ho⟩
 rcases bC i s.es.length with hlt | hge
 · have hg:decide ((i:Int) < (s.es.length:Int))=true:=by simp; omega
   obtain ⟨t,hx⟩:∃ e,s.es[i]? = some e:=⟨_,aU hlt⟩
   have q2:=aV (row:=bI) hx
   have htm:=bM hx
   rw [fA,nR hx] at ho
   cases hc:decide (t.nm=n) with
   | true=>
    rw [hc,aI] at ho
    rw [<-ho] at hK
    simp (maxSteps:=1000000) -dsimp only [go_sem,hg,↓q2,bI,aC,eI,hc]
    refine ⟨by omega,aAW (hs.en t htm).1 ?_⟩
    simp (maxSteps:=1000000) -dsimp only [go_sem]
    refine Y6 (hs.en t htm).2 ?_
    simp (maxSteps:=1000000) -dsimp only [go_sem]
    exact .sel [] (by simp) (by simp) rfl (.done (by simpa [go_sem,bI] using hK))
   | false=>
    rw [hc,aG] at ho
    simp (maxSteps:=1000000) -dsimp only [go_sem,hg,↓q2,bI,aC,eI,hc]
    refine ⟨by omega,by omega,aE (i + 1) 2 ⟨by omega,ho⟩ (by omega) ?_ ?_⟩
    · simp [go_sem]
    · simp [go_sem,aC]
 · have hg:decide ((i:Int) < (s.es.length:Int))=false:=by simp; omega
   obtain rfl:i=s.es.length:=by omega
   rw [List.drop_length] at ho
   rw [<-ho] at hK
   simp -dsimp only [go_sem,hg,aC]
   exact .sel [] (by simp) (by simp) rfl (.done (by simpa [go_sem,fA,MA] using hK))
noncomputable def eqB {α:Type} (a b:α):Bool:=@decide (a=b) (Classical.propDecidable _)
theorem aDZ:Meets Tryz.prog 46 (rT qO C.sc fun s=>.bool (eK s)).sp:=by
 refine aF Tryz.func46 aKF 1 (by rw [Tryz.ntmps46]; decide) (aA _) o8 ?_
 rintro av H K ⟨⟨h,rfl⟩,hK⟩
 obtain ⟨_,rfl,s,rfl,hs⟩:=gL h
 have hK:K (bS (eK s)) []:=by
  have:(rT qO C.sc fun s=>.bool (eK s)).val [.va (.gs (aC s))]=bA (eK s):=by simp -dsimp only [go_sem]
  rw [this] at hK; exact hK
 obtain ⟨hv,hle,hls,hes,hss⟩:=hs
 have big:eK s=true->∀ R:Hp,W.Fin 0 K (bS true) R:=fun h R=>by
  rw [h] at hK
  exact .sel [] (by simp) (by simp) rfl (.done (by simpa [go_sem] using hK))
 cases d1:decide (16 < (s.es.length:Int)) with
 | true=>
  simp (maxSteps:=1000000) -dsimp only [go_sem,aC,IN,GK,d1]
  exact big (by unfold eK; rw [show decide (16 < s.es.length)=true by simp at d1 ⊢; omega]; simp) _
 | false=>
 cases d2:decide (16 < (s.ss.length:Int)) with
 | true=>
  simp (maxSteps:=1000000) -dsimp only [go_sem,aC,IN,GK,d1,d2]
  exact big (by unfold eK; rw [show decide (16 < s.es.length + s.ss.length)=true by simp at d2 ⊢; omega]; simp) _
 | false=>
 cases d3:decide (16 < (s.es.length:Int) + (s.ss.length:Int)) with
 | true=>
  simp (maxSteps:=1000000) -dsimp only [go_sem,aC,IN,GK,d1,d2,d3]
  exact ⟨by simp at d1 d2; omega,big (by unfold eK; rw [show decide (16 < s.es.length + s.ss.length)=true by simp at d3 ⊢; omega]; simp) _⟩
 | false=>
 simp (maxSteps:=1000000) -dsimp only [go_sem,aC,IN,GK,d1,d2,d3]
 simp only [decide_eq_false_iff_not] at d1 d2 d3
 refine ⟨by omega,?_⟩
 have hL:eK s=(s.es.any (fun e=>decide (16 < e.ns.length)) || s.ss.any (fun t=>decide (16 < t.fs.length))):=by
  unfold eK; rw [decide_eq_false (by omega),decide_eq_false (by omega)]; rfl
 refine aN (α:=Nat) (fun i=>[(1,.va (.c1 (.pt 0 0))),(3,iS .i64 i)]) (fun _=>[.cells (aC s) 25])
  (fun i=>i<=s.es.length/\(s.es.drop i).any (fun e=>decide (16 < e.ns.length))=s.es.any (fun e=>decide (16 < e.ns.length))) (fun i=>s.es.length - i) 0 1 ⟨Nat.zero_le _,rfl⟩ ?_ ?_ ?_
 · simp [go_sem]
 · simp [go_sem,aC]
 rintro i ⟨hi,ho⟩
 rcases bC i s.es.length with hlt | hge
 · have hg:decide ((i:Int) < (s.es.length:Int))=true:=by simp; omega
   obtain ⟨e,hx⟩:∃ e,s.es[i]? = some e:=⟨_,aU hlt⟩
   have q2:=aV (row:=bI) hx
   rw [gQ hx] at ho
   simp (maxSteps:=1000000) -dsimp only [go_sem,hg,↓q2,bI,aC]
   and_intros
   all_goals first
    | omega
    | skip
   · intro hc
     have hc':decide (16 < e.ns.length)=true:=by simp at hc; simp; omega
     have:eK s=true:=by simp only [hL,<-ho,hc',Bool.true_or]
     rw [this] at hK
     exact .sel [] (by simp) (by simp) rfl (.done (by simpa [go_sem] using hK))
   · intro hc
     refine ⟨by omega,aE (i + 1) 1 ⟨by omega,?_⟩ (by omega) ?_ ?_⟩
     · have hc':decide (16 < e.ns.length)=false:=by simp at hc; simp; omega
       rw [<-ho,hc',Bool.false_or]
     · simp [go_sem]
     · simp [go_sem,aC]
 · have hg:decide ((i:Int) < (s.es.length:Int))=false:=by simp; omega
   obtain rfl:i=s.es.length:=by omega
   rw [pE] at ho
   rw [<-ho,Bool.false_or] at hL
   simp (maxSteps:=1000000) -dsimp only [go_sem,hg,aC]
   refine aN (α:=Nat) (fun i=>[(1,.va (.c1 (.pt 0 0))),(4,iS .i64 i)]) (fun _=>[.cells (aC s) 25])
    (fun i=>i<=s.ss.length/\(s.ss.drop i).any (fun e=>decide (16 < e.fs.length))=s.ss.any (fun e=>decide (16 < e.fs.length))) (fun i=>s.ss.length - i) 0 1 ⟨Nat.zero_le _,rfl⟩ ?_ ?_ ?_
   · simp [go_sem]
   · simp [go_sem,aC]
   clear hi ho hge hg
   rintro i ⟨hi,ho⟩
   rcases bC i s.ss.length with hlt | hge
   · have hg:decide ((i:Int) < (s.ss.length:Int))=true:=by simp; omega
     obtain ⟨e,hx⟩:∃ e,s.ss[i]? = some e:=⟨_,aU hlt⟩
     have q2:=aV (row:=aP) hx
     rw [gQ hx] at ho
     simp (maxSteps:=1000000) -dsimp only [go_sem,hg,↓q2,aP,aC]
     and_intros
     all_goals first
      | omega
      | skip
     · intro hc
       have hc':decide (16 < e.fs.length)=true:=by simp at hc; simp; omega
       have:eK s=true:=by simp only [hL,<-ho,hc',Bool.true_or]
       rw [this] at hK
       exact .sel [] (by simp) (by simp) rfl (.done (by simpa [go_sem] using hK))
     · intro hc
       refine ⟨by omega,aE (i + 1) 1 ⟨by omega,?_⟩ (by omega) ?_ ?_⟩
       · have hc':decide (16 < e.fs.length)=false:=by simp at hc; simp; omega
         rw [<-ho,hc',Bool.false_or]
       · simp [go_sem]
       · simp [go_sem,aC]
   · have hg:decide ((i:Int) < (s.ss.length:Int))=false:=by simp; omega
     obtain rfl:i=s.ss.length:=by omega
     rw [pE] at ho
     simp (maxSteps:=1000000) -dsimp only [go_sem,hg,aC]
     rw [hL,<-ho] at hK
     exact .sel [] (by simp) (by simp) rfl (.done (by simpa [go_sem] using hK))
def FC (len:Sc->Nat):List S->Prop:=fun av=>match av with
 | [.va (.gs r),.va (.c1 (.vl (.int .i64 i)))]=>kK r/\0<=i/\i < (len (C.sc r):Int)
 | _=>False
theorem mG {len:Sc->Nat} {av:List S} (h:FC len av):∃ (s:Sc) (i:Nat),av=[.va (.gs (aC s)),iS .i64 i]/\s.fit/\i < len s:=by
 unfold FC at h
 split at h
 · obtain ⟨⟨a,rfl,ha⟩,h1,h2⟩:=h
   rw [fV] at h2
   rename_i i
   exact ⟨a,i.toNat,by rw [Int.toNat_of_nonneg h1],ha,by omega⟩
 · exact h.elim
noncomputable def VO (f:Sc->Nat->Int):List S->A:=fun av=>match av with
 | [.va (.gs r),.va (.c1 (.vl (.int .i64 i)))]=>iA .i64 (f (C.sc r) i.toNat)
 | _=>.gs []
noncomputable def A8 (len:Sc->Nat) (f:Sc->Nat->Int):Fun:=⟨FC len,VO f,fun av h=>by obtain ⟨a,b,rfl,_⟩:=mG h; trivial⟩
theorem HN {len:Sc->Nat} {f:Sc->Nat->Int}:∀ av H K,(A8 len f).sp av H K->av.length=2:=fun av H K h=>by obtain ⟨a,b,rfl,_⟩:=mG h.1.1; rfl
attribute [go_sem] A8 FC VO
theorem ZY:Meets Tryz.prog 47 (A8 (fun s=>s.es.length) jF).sp:=by
 refine aF Tryz.func47 aKW 2 (by rw [Tryz.ntmps47]; decide) (aJ IC (aJ wU (aJ SP (aA _)))) HN ?_
 rintro av H K ⟨⟨h,rfl⟩,hK⟩
 obtain ⟨s,i,rfl,hs,hi⟩:=mG (len:=fun s=>s.es.length) h
 have hK:K (iS .i64 (jF s i)) []:=by
  have:(A8 (fun s=>s.es.length) jF).val [.va (.gs (aC s)),iS .i64 i]=iA .i64 (jF s i):=by simp -dsimp only [go_sem,Int.toNat_natCast]
  rw [this] at hK; exact hK
 clear h
 have hle:=hs.ok.le
 have fin:∀ (x:Int) (R:Hp),jF s i=x->W.Fin 0 K (iS .i64 x) R:=fun x R h=>by
  rw [h] at hK
  exact .sel [] (by simp) (by simp) rfl (.done (by simpa [go_sem] using hK))
 obtain ⟨e,hx⟩:∃ e,s.es[i]? = some e:=⟨_,aU hi⟩
 have q1:=aV (row:=bI) hx
 obtain ⟨_,hln,hlv,_,_⟩:=hs.ok.es e (bM hx)
 have hA:jF s i=bif !(vG (bl e.nm)) then 5 else bif fO (s.es.take i) e.nm then 7 else CU e:=by unfold jF; rw [hx]
 simp (maxSteps:=1000000) -dsimp only [go_sem,aC,aD6,aFW,↓q1,bI]
 refine ⟨by omega,fun h1=>fin 5 _ (by rw [hA,h1]; rfl),fun h1=>?_⟩
 rw [h1] at hA
 simp only [aG] at hA
 refine aN (α:=Nat) (fun j=>[(1,iS .i64 i),(2,.va (.c1 (.pt 0 0))),(5,.va (.c1 (.pt 1 0))),(6,iS .i64 j)]) (fun _=>[.cells (aC s) 25,.cells (bI e) 92])
  (fun j=>j<=i/\fO ((s.es.take i).drop j) e.nm=fO (s.es.take i) e.nm) (fun j=>i - j) 0 2 ⟨Nat.zero_le _,rfl⟩ ?_ ?_ ?_
 · simp [go_sem]
 · simp [go_sem,aC,bI]
 have hti:(s.es.take i).length=i:=by rw [List.length_take]; omega
 rintro j ⟨hj,ho⟩
 rcases bC j i with hlt | hge
 · have hg:decide ((j:Int) < (i:Int))=true:=by simp; omega
   obtain ⟨d,hd⟩:∃ d,s.es[j]? = some d:=⟨_,aU (by omega)⟩
   have hd':(s.es.take i)[j]? = some d:=by rw [List.getElem?_take,if_pos hlt]; exact hd
   have q2:=aV (row:=bI) hd
   rw [fO,gQ hd'] at ho
   simp (maxSteps:=1000000) -dsimp only [go_sem,hg,↓q2,bI,aC,eI]
   refine ⟨by omega,fun hc=>?_,fun hc=>?_⟩
   · rw [hc,Bool.true_or] at ho
     exact fin 7 _ (by rw [hA,<-ho]; rfl)
   · rw [hc,Bool.false_or] at ho
     refine ⟨by omega,aE (j + 1) 2 ⟨by omega,ho⟩ (by omega) ?_ ?_⟩
     · simp [go_sem]
     · simp [go_sem,aC,bI]
 · obtain rfl:j=i:=by omega
   have hg:decide ((j:Int) < (j:Int))=false:=by simp
   rw [List.drop_eq_nil_of_le (by omega)] at ho
   rw [<-ho] at hA
   replace hA:jF s j=CU e:=hA
   clear ho hti
   simp (maxSteps:=1000000) -dsimp only [go_sem,hg,bI,aC]
   refine ⟨fun h1=>?_,fun h1=>?_⟩
   · refine fin 2 _ ?_
     rw [hA]
     unfold CU
     have:(decide (e.ns.length=0) || decide (e.ns.length ≠ e.vs.length))=true:=by
      simp only [Bool.or_eq_true,beq_iff_eq,bne_iff_ne,decide_eq_true_eq] at h1 ⊢; omega
     rw [this]; rfl
   simp only [Bool.or_eq_false_iff,beq_eq_false_iff_ne,bne_eq_false_iff_eq,ne_eq] at h1
   have hl:e.ns.length=e.vs.length:=by omega
   have hF:jF s j=fE (kH e) (e.ns.length - 0) 0:=by
    rw [hA]; unfold CU; rw [decide_eq_false (by omega),decide_eq_false (by omega)]; rfl
   clear hA hg hge hj
   refine aN (α:=Nat) (fun k=>[(5,.va (.c1 (.pt 1 0))),(7,iS .i64 k)]) (fun _=>[.cells (aC s) 25,.cells (bI e) 92])
    (fun k=>k<=e.ns.length/\fE (kH e) (e.ns.length - k) k=fE (kH e) (e.ns.length - 0) 0) (fun k=>e.ns.length - k) 0 2 ⟨Nat.zero_le _,rfl⟩ ?_ ?_ ?_
   · simp [go_sem]
   · simp [go_sem,aC,bI]
   rintro k ⟨hk,ho⟩
   rcases bC k e.ns.length with hlt | hge
   · have hg:decide ((k:Int) < (e.ns.length:Int))=true:=by simp; omega
     obtain ⟨nm,hx2⟩:∃ nm,e.ns[k]? = some nm:=⟨_,aU hlt⟩
     obtain ⟨n,hy⟩:∃ nm,e.vs[k]? = some nm:=⟨_,aU (by omega)⟩
     have q2:=aV (row:=bL) hx2
     have q3:=aV (row:=cL) hy
     have hbs:B5 (e.ns.map bL):=tY hln
     have hk0:(0<=(k:Int))=True:=by simp
     have hk1:((k:Int)<=9223372036854775807)=True:=by simp; omega
     have hA:kH e k=bif !(cF (bl nm)) then (5:Int) else bif cU (e.ns.take k) nm then 7 else bif decide (n < 0) || decide (127 < n) then 4 else
      bif (decide ((k:Int)=0) && decide (n ≠ 0)) || (decide (0 < (k:Int)) && match e.vs[k - 1]? with | some m=>decide (n<=m) | none=>false) then 2 else 0:=by
      unfold kH; rw [hx2,hy]; rfl
     have fin':∀ (x:Int) (R:Hp),kH e k=x->x ≠ 0->W.Fin 0 K (iS .i64 x) R:=fun x R h1 h2=>fin x R (by
      rw [hF,<-ho,sR hlt (by rw [h1]; exact h2),h1])
     have cB:kH e k=0->fE (kH e) (e.ns.length - (k + 1)) (k + 1)=fE (kH e) (e.ns.length - 0) 0:=fun h1=>by rw [<-ho,xE hlt h1]
     cases hc1:cF (bl nm) with
     | false=>
      simp (maxSteps:=1000000) -dsimp only [go_sem,hg,↓q2,bI,aC,hc1]
      exact ⟨by omega,fin' 5 _ (by rw [hA,hc1]; rfl) (by decide)⟩
     | true=>
      cases hc2:cU (e.ns.take k) nm with
      | true=>
       simp (maxSteps:=1000000) -dsimp only [go_sem,hg,↓q2,bI,aC,hc1,hc2,hbs,hk0,hk1,Int.toNat_natCast]
       exact ⟨by omega,by omega,fin' 7 _ (by rw [hA,hc1,hc2]; rfl) (by decide)⟩
      | false=>
       cases hc3:decide (n < 0) with
       | true=>
        simp (maxSteps:=1000000) -dsimp only [go_sem,hg,↓q2,↓q3,bI,aC,hc1,hc2,hbs,hk0,hk1,Int.toNat_natCast,hc3]
        exact ⟨by omega,by omega,by omega,fin' 4 _ (by rw [hA,hc1,hc2,hc3]; rfl) (by decide)⟩
       | false=>
       cases hc4:decide (127 < n) with
       | true=>
        simp (maxSteps:=1000000) -dsimp only [go_sem,hg,↓q2,↓q3,bI,aC,hc1,hc2,hbs,hk0,hk1,Int.toNat_natCast,hc3,hc4]
        exact ⟨by omega,by omega,by omega,by omega,fin' 4 _ (by rw [hA,hc1,hc2,hc3,hc4]; rfl) (by decide)⟩
       | false=>
       have hA2:kH e k=bif (decide ((k:Int)=0) && decide (n ≠ 0)) || (decide (0 < (k:Int)) && match e.vs[k - 1]? with | some m=>decide (n<=m) | none=>false) then 2 else 0:=by rw [hA,hc1,hc2,hc3,hc4]; rfl
       clear hA
       rcases Nat.eq_zero_or_pos k with h0 | h0
       · have g0:((k:Int) == 0)=true:=by simp; omega
         have g1:decide (0 < (k:Int))=false:=by simp; omega
         have g2:decide ((k:Int)=0)=true:=g0
         cases hn:(n != 0) with
         | true=>
          simp (maxSteps:=1000000) -dsimp only [go_sem,hg,↓q2,↓q3,bI,aC,hc1,hc2,hbs,hk0,hk1,Int.toNat_natCast,hc3,hc4,g0,g1,hn,Bool.and_false]
          and_intros
          all_goals first
           | omega
           | exact fin' 2 _ (by rw [hA2,g1,g2]; simp at hn; simp [hn]) (by decide)
         | false=>
          simp (maxSteps:=1000000) -dsimp only [go_sem,hg,↓q2,↓q3,bI,aC,hc1,hc2,hbs,hk0,hk1,Int.toNat_natCast,hc3,hc4,g0,g1,hn,Bool.and_false]
          and_intros
          all_goals first
           | omega
           | exact aE (k + 1) 2 ⟨by omega,cB (by rw [hA2,g1]; simp at hn; simp [hn])⟩ (by omega) (by simp [go_sem]) (by simp [go_sem,aC,bI])
       · have g0:((k:Int) == 0)=false:=by simp; omega
         have g1:decide (0 < (k:Int))=true:=by simp; omega
         have g2:decide ((k:Int)=0)=false:=g0
         obtain ⟨m,hm⟩:∃ m,e.vs[k - 1]? = some m:=⟨_,aU (by omega)⟩
         have q4:((k:Int) - 1).toNat=k - 1:=by omega
         have q5:=pF (row:=cL) hm
         cases hn:decide (n<=m) with
         | true=>
          simp (maxSteps:=1000000) -dsimp only [go_sem,hg,↓q2,↓q3,bI,aC,hc1,hc2,hbs,hk0,hk1,Int.toNat_natCast,aH,forall_eq',hc3,hc4,g0,g1,q4,hm,hn,Bool.and_true]
          and_intros
          all_goals first
           | omega
           | exact fin' 2 _ (by rw [hA2,hm,g1]; simp only [hn]; simp) (by decide)
         | false=>
          simp (maxSteps:=1000000) -dsimp only [go_sem,hg,↓q2,↓q3,bI,aC,hc1,hc2,hbs,hk0,hk1,Int.toNat_natCast,aH,forall_eq',hc3,hc4,g0,g1,q4,hm,hn,Bool.and_true]
          and_intros
          all_goals first
           | omega
           | exact aE (k + 1) 2 ⟨by omega,cB (by rw [hA2,hm,g1,g2]; simp only [hn]; rfl)⟩ (by omega) (by simp [go_sem]) (by simp [go_sem,aC,bI])
   · have hg:decide ((k:Int) < (e.ns.length:Int))=false:=by simp; omega
     obtain rfl:k=e.ns.length:=by omega
     rw [zG] at ho
     simp (maxSteps:=1000000) -dsimp only [go_sem,hg,bI]
     exact fin 0 _ (by rw [hF,<-ho])
def FB (N:Nat):List S->Prop:=fun av=>match av with
 | [.va (.gs r),.va (.gs q)]=>kK r/\eW q/\(C.ty q).h<=N
 | _=>False
theorem iU {N:Nat} {av:List S} (h:FB N av):∃ s t,av=[.va (.gs (aC s)),.va (.gs (aL t))]/\s.fit/\TyOk t/\t.h<=N:=by
 unfold FB at h
 split at h
 · obtain ⟨⟨a,rfl,ha⟩,⟨b,rfl,hb⟩,hh⟩:=h
   rw [fG] at hh
   exact ⟨a,b,rfl,ha,hb,hh⟩
 · exact h.elim
noncomputable def NK:List S->A:=fun av=>match av with
 | [.va (.gs r),.va (.gs q)]=>bA (valF (C.sc r).ss (C.sc r).es (C.ty q))
 | _=>.gs []
noncomputable def B8 (N:Nat):Fun:=⟨FB N,NK,fun av h=>by obtain ⟨a,b,rfl,_⟩:=iU h; trivial⟩
theorem FO {N:Nat}:∀ av H K,(B8 N).sp av H K->av.length=2:=fun av H K h=>by obtain ⟨a,b,rfl,_⟩:=iU h.1.1; rfl
attribute [go_sem] B8 FB NK
theorem aMS {ss:List St} {es:List En} {s:Int} {n:ByteArray} {e:List Ty}:valF ss es (.mk 6 s n e)=(fQ ss n && s == 0 && (e.length:Int) == 0):=by
 rw [valF]; rfl
theorem aM7 {ss:List St} {es:List En} {s:Int} {n:ByteArray} {e:List Ty}:valF ss es (.mk 7 s n e)=(fO es n && s == 0 && (e.length:Int) == 0):=by
 rw [valF]; rfl
theorem OV:∀ N,Meets Tryz.prog 73 (B8 N).sp
 | 0=>⟨by kernel_rfl,by rintro xs vs E ro w K _ _ _ ⟨⟨h,_⟩,_⟩; obtain ⟨_,a,_,_,_,h⟩:=iU h; have:=a.h_pos; omega⟩
 | N + 1=>by
  refine aF Tryz.func73 aLZ 2 (by rw [Tryz.ntmps73]; decide) (aJ (OV N) (aJ aA3 (aB F0 (aB QC (aA _))))) FO ?_
  rintro av H K ⟨⟨h,rfl⟩,hK⟩
  obtain ⟨sc,t,rfl,hs,ht,hh⟩:=iU h
  have hK:K (bS (valF sc.ss sc.es t)) []:=by
   have:(B8 (N + 1)).val [.va (.gs (aC sc)),.va (.gs (aL t))]=bA (valF sc.ss sc.es t):=by simp -dsimp only [go_sem]
   rw [this] at hK; exact hK
  clear h
  have fin:∀ (b:Bool) (R:Hp),valF sc.ss sc.es t=b->W.Fin 0 K (bS b) R:=fun b R h=>by
   rw [h] at hK
   exact .sel [] (by simp) (by simp) rfl (.done (by simp -dsimp only [go_sem]; simpa using hK))
  have hit:eW (aL t):=dS ht
  cases t with
  | mk k s n e=>
  have hcd:=fG (.mk k s n e)
  rw [aL,aT] at hcd hit
  have hcl:(Ty.mk k s n e).e.length=e.length:=rfl
  by_cases k1:(k == 1)=true
  · have hF:=valF.eq_1 sc.ss sc.es k s n e
    rw [k1] at hF
    simp only [aI] at hF
    simp (maxSteps:=1000000) -dsimp only [go_sem,aC,aL,aT,oS,oZ,k1,hit,hcd,hcl]
    exact fin _ _ hF
  rw [Bool.not_eq_true] at k1
  by_cases k2:(k == 2)=true
  · have hF:=valF.eq_1 sc.ss sc.es k s n e
    rw [k1,k2] at hF
    simp only [aI,aG] at hF
    simp (maxSteps:=1000000) -dsimp only [go_sem,aC,aL,aT,oS,oZ,k1,k2,hit,hcd,hcl]
    exact fin _ _ hF
  rw [Bool.not_eq_true] at k2
  by_cases k3:(k == 3)=true
  · have hF:=valF.eq_1 sc.ss sc.es k s n e
    rw [k1,k2,k3] at hF
    simp only [aI,aG,Bool.and_false,Bool.or_false] at hF
    simp (maxSteps:=1000000) -dsimp only [go_sem,aC,aL,aT,oS,oZ,k1,k2,k3,hit,hcd,hcl]
    exact fin _ _ hF
  rw [Bool.not_eq_true] at k3
  by_cases k4:(k == 4)=true
  · have hF:=valF.eq_1 sc.ss sc.es k s n e
    rw [k1,k2,k3,k4] at hF
    simp only [aI,aG] at hF
    simp (maxSteps:=1000000) -dsimp only [go_sem,aC,aL,aT,oS,oZ,k1,k2,k3,k4,hit,hcd,hcl]
    exact fin _ _ hF
  rw [Bool.not_eq_true] at k4
  by_cases k5:(k == 5)=true
  · have hF:=valF.eq_1 sc.ss sc.es k s n e
    rw [k1,k2,k3,k4,k5] at hF
    simp only [aI,aG] at hF
    cases hc:(decide (1<=s) && decide (s<=32) && bl n == [] && (e.length:Int) == 1) with
    | false=>
     have hF':valF sc.ss sc.es (.mk k s n e)=false:=by
      rw [hF]
      cases h0:(decide (1<=s) && decide (s<=32) && bl n == []) with
      | false=>rfl
      | true=>
       rw [h0,Bool.true_and] at hc
       match e,hc with
       | [],_=>rfl
       | [u],hc=>simp at hc
       | u :: v :: r,_=>simp [mE]
     simp (maxSteps:=1000000) -dsimp only [go_sem,aC,aL,aT,oS,oZ,k1,k2,k3,k4,k5,hc]
     exact fin _ _ hF'
    | true=>
     obtain ⟨u,rfl⟩:∃ u,e=[u]:=by
      simp only [Bool.and_eq_true,beq_iff_eq] at hc
      exact List.length_eq_one_iff.1 (by omega)
     have h0:(decide (1<=s) && decide (s<=32) && bl n == [])=true:=by
      simp only [Bool.and_eq_true] at hc ⊢; exact hc.1
     have hF':valF sc.ss sc.es (.mk k s n [u])=valF sc.ss sc.es u:=by rw [hF,h0]; simp [mE]
     have hu2:u.h<=N:=by rw [Ty.h,Ty.hs,Ty.hs] at hh; omega
     have hu:eW (aL u):=dS (ht.e u (by simp [Ty.e]))
     have hsf:=fK hs
     rw [aC] at hsf
     have hsd:=fV sc
     rw [aC] at hsd
     have hc':(decide (1<=s) && decide (s<=32) && bl n == [] && ((1:Nat):Int) == 1)=true:=hc
     simp (maxSteps:=1000000) -dsimp only [go_sem,aC,aL,aT,oS,oZ,k1,k2,k3,k4,k5,hc']
     refine ⟨⟨by omega,fun r hr=>by subst hr; exact gZ u⟩,fun r hr=>?_⟩
     subst hr
     simp (maxSteps:=1000000) -dsimp only [go_sem,hsf,hsd,hu,gZ]
     exact ⟨hu2,fin _ _ hF'⟩
  rw [Bool.not_eq_true] at k5
  by_cases k6:(k == 6)=true
  · obtain rfl:k=6:=by simpa using k6
    have hF:=aMS (ss:=sc.ss) (es:=sc.es) (s:=s) (n:=n) (e:=e)
    simp (maxSteps:=1000000) -dsimp only [go_sem,aC,aL,aT,oS,oZ,k1,k2,k3,k4,k5,k6]
    refine kZ hs ?_
    cases hc:fQ sc.ss n with
    | false=>
     rw [hc] at hF
     simp (maxSteps:=1000000) -dsimp only [go_sem,aP,hit,hcd,hcl]
     exact fin _ _ hF
    | true=>
     rw [hc] at hF
     simp (maxSteps:=1000000) -dsimp only [go_sem,aP,hit,hcd,hcl]
     exact fin _ _ hF
  rw [Bool.not_eq_true] at k6
  by_cases k7:(k == 7)=true
  · obtain rfl:k=7:=by simpa using k7
    have hF:=aM7 (ss:=sc.ss) (es:=sc.es) (s:=s) (n:=n) (e:=e)
    simp (maxSteps:=1000000) -dsimp only [go_sem,aC,aL,aT,oS,oZ,k1,k2,k3,k4,k5,k6,k7]
    refine m5 hs ?_
    cases hc:fO sc.es n with
    | false=>
     rw [hc] at hF
     simp (maxSteps:=1000000) -dsimp only [go_sem,bI,hit,hcd,hcl]
     exact fin _ _ hF
    | true=>
     rw [hc] at hF
     simp (maxSteps:=1000000) -dsimp only [go_sem,bI,hit,hcd,hcl]
     exact fin _ _ hF
  rw [Bool.not_eq_true] at k7
  have hF:=valF.eq_1 sc.ss sc.es k s n e
  rw [k1,k2,k3,k4,k5,k6,k7] at hF
  simp only [aG] at hF
  simp (maxSteps:=1000000) -dsimp only [go_sem,aC,aL,aT,oS,oZ,k1,k2,k3,k4,k5,k6,k7]
  exact fin _ _ hF
def FA:List S->Prop:=fun av=>match av with
 | [.va (.gs r),.va (.gs q)]=>kK r/\eW q
 | _=>False
theorem qK {av:List S} (h:FA av):∃ s t,av=[.va (.gs (aC s)),.va (.gs (aL t))]/\s.fit/\TyOk t:=by
 unfold FA at h
 split at h
 · obtain ⟨⟨a,rfl,ha⟩,⟨b,rfl,hb⟩⟩:=h
   exact ⟨a,b,rfl,ha,hb⟩
 · exact h.elim
noncomputable def r0Fn:Fun:=⟨FA,NK,fun av h=>by obtain ⟨a,b,rfl,_⟩:=qK h; trivial⟩
attribute [go_sem] r0Fn FA
theorem aAE:Meets Tryz.prog 73 r0Fn.sp:=eJ 0 OV fun av H K ⟨⟨h,e⟩,hK⟩=>by
 obtain ⟨a,b,rfl,ha,hb⟩:=qK h
 exact ⟨b.h,⟨⟨⟨fK ha,dS hb,by rw [fG]; exact Nat.le_refl _⟩,e⟩,hK⟩⟩
theorem QA:Meets Tryz.prog 48 (A8 (fun s=>s.ss.length) jU).sp:=by
 refine aF Tryz.func48 aOL 2 (by rw [Tryz.ntmps48]; decide) (aJ IC (aB QC (aJ wU (aJ aAE (aA _))))) HN ?_
 rintro av H K ⟨⟨h,rfl⟩,hK⟩
 obtain ⟨s,i,rfl,hs,hi⟩:=mG (len:=fun s=>s.ss.length) h
 have hK:K (iS .i64 (jU s i)) []:=by
  have:(A8 (fun s=>s.ss.length) jU).val [.va (.gs (aC s)),iS .i64 i]=iA .i64 (jU s i):=by simp -dsimp only [go_sem,Int.toNat_natCast]
  rw [this] at hK; exact hK
 clear h
 have hls:=hs.ok.ls
 have fin:∀ (x:Int) (R:Hp),jU s i=x->W.Fin 0 K (iS .i64 x) R:=fun x R h=>by
  rw [h] at hK
  exact .sel [] (by simp) (by simp) rfl (.done (by simpa [go_sem] using hK))
 obtain ⟨t,hx⟩:∃ e,s.ss[i]? = some e:=⟨_,aU hi⟩
 have q1:=aV (row:=aP) hx
 obtain ⟨_,hlf,hfs⟩:=hs.ok.ss t (bM hx)
 have hA:jU s i=bif oF s i t.nm != 0 then oF s i t.nm else CO s.ss s.es t:=by unfold jU; rw [hx]
 have hsf:=fK hs
 rw [aC] at hsf
 have hsd:=fV s
 rw [aC] at hsd
 simp (maxSteps:=1000000) -dsimp only [go_sem,aC,aCV,aF6,↓q1,aP]
 refine ⟨by omega,fun h1=>fin 5 _ (by rw [hA]; unfold oF; rw [h1]; rfl),fun h1=>?_⟩
 refine m5 hs ?_
 simp (maxSteps:=1000000) -dsimp only [go_sem,bI]
 refine ⟨fun h2=>fin 7 _ (by rw [hA]; unfold oF; rw [h1,h2]; rfl),fun h2=>?_⟩
 have hC:oF s i t.nm=bif fQ (s.ss.take i) t.nm then 7 else 0:=by unfold oF; rw [h1,h2]; rfl
 generalize ((fA s.es t.nm).getD default)=dflt
 refine aN (α:=Nat) (fun j=>[(1,iS .i64 i),(2,.va (.c1 (.pt 0 0))),(5,.va (.c1 (.pt 1 0))),(8,iS .i64 j)]) (fun _=>[.cells (aC s) 25,.cells (aP t) 95])
  (fun j=>j<=i/\fQ ((s.ss.take i).drop j) t.nm=fQ (s.ss.take i) t.nm) (fun j=>i - j) 0 2 ⟨Nat.zero_le _,rfl⟩ ?_ ?_ ?_
 · simp [go_sem]
 · simp [go_sem,aC,aP]
 have hti:(s.ss.take i).length=i:=by rw [List.length_take]; omega
 rintro j ⟨hj,ho⟩
 rcases bC j i with hlt | hge
 · have hg:decide ((j:Int) < (i:Int))=true:=by simp; omega
   obtain ⟨d,hd⟩:∃ d,s.ss[j]? = some d:=⟨_,aU (by omega)⟩
   have hd':(s.ss.take i)[j]? = some d:=by rw [List.getElem?_take,if_pos hlt]; exact hd
   have q2:=aV (row:=aP) hd
   rw [fQ,gQ hd'] at ho
   simp (maxSteps:=1000000) -dsimp only [go_sem,hg,↓q2,aP,aC,eI]
   refine ⟨by omega,fun hc=>?_,fun hc=>?_⟩
   · rw [hc,Bool.true_or] at ho
     exact fin 7 _ (by rw [hA,hC,<-ho]; rfl)
   · rw [hc,Bool.false_or] at ho
     refine ⟨by omega,aE (j + 1) 2 ⟨by omega,ho⟩ (by omega) ?_ ?_⟩
     · simp [go_sem]
     · simp [go_sem,aC,aP]
 · obtain rfl:j=i:=by omega
   have hg:decide ((j:Int) < (j:Int))=false:=by simp
   rw [List.drop_eq_nil_of_le (by omega)] at ho
   have hF:jU s j=CO s.ss s.es t:=by rw [hA,hC,<-ho]; rfl
   clear ho hti hA hC q1 hj hge
   simp (maxSteps:=1000000) -dsimp only [go_sem,hg,aP,aC]
   clear hg
   refine aN (α:=Nat) (fun k=>[(2,.va (.c1 (.pt 0 0))),(5,.va (.c1 (.pt 1 0))),(9,iS .i64 k)]) (fun _=>[.cells (aC s) 25,.cells (aP t) 95])
    (fun k=>k<=t.fs.length/\fE (oP s.ss s.es t) (t.fs.length - k) k=CO s.ss s.es t) (fun k=>t.fs.length - k) 0 2 ⟨Nat.zero_le _,rfl⟩ ?_ ?_ ?_
   · simp [go_sem]
   · simp [go_sem,aC,aP]
   rintro k ⟨hk,ho⟩
   rcases bC k t.fs.length with hlt | hge
   · have hg:decide ((k:Int) < (t.fs.length:Int))=true:=by simp; omega
     obtain ⟨f,hx2⟩:∃ nm,t.fs[k]? = some nm:=⟨_,aU hlt⟩
     have q2:=aV (row:=aW) hx2
     have hf:f.ok:=hfs f (bM hx2)
     have hit:eW (aL f.ty):=dS hf.ty
     have hA:oP s.ss s.es t k=bif decide (f.num < 1) || decide (127 < f.num) then (4:Int) else bif decide (0 < (k:Int)) && (match t.fs[k - 1]? with | some g=>decide (f.num<=g.num) | none=>false) then 2 else
      bif !(cF (bl f.nm)) then 5 else bif (t.fs.take k).any (fun g=>decide (g.nm=f.nm)) then 7 else bif !(valF s.ss s.es f.ty) then 13 else 0:=by
      unfold oP; rw [hx2]; rfl
     have fin':∀ (x:Int) (R:Hp),oP s.ss s.es t k=x->x ≠ 0->W.Fin 0 K (iS .i64 x) R:=fun x R h1 h2=>fin x R (by
      rw [hF,<-ho,sR hlt (by rw [h1]; exact h2),h1])
     have cB:oP s.ss s.es t k=0->fE (oP s.ss s.es t) (t.fs.length - (k + 1)) (k + 1)=CO s.ss s.es t:=fun h1=>by rw [<-ho,xE hlt h1]
     cases c0:decide (f.num < 1) with
     | true=>
      rw [c0] at hA
      simp (maxSteps:=1000000) -dsimp only [go_sem,hg,↓q2,aW,aP,aC,c0]
      exact ⟨by omega,fin' 4 _ hA (by decide)⟩
     | false=>
     cases c1:decide (127 < f.num) with
     | true=>
      rw [c0,c1] at hA
      simp (maxSteps:=1000000) -dsimp only [go_sem,hg,↓q2,aW,aP,aC,c0,c1]
      exact ⟨by omega,fin' 4 _ hA (by decide)⟩
     | false=>
     rw [c0,c1] at hA
     simp only [Bool.or_self,aG] at hA
     rcases Nat.eq_zero_or_pos k with h0 | h0
     · have g1:decide (0 < (k:Int))=false:=by simp; omega
       rw [g1] at hA
       simp only [Bool.false_and,aG] at hA
       cases c3:cF (bl f.nm) with
       | false=>
        rw [c3] at hA
        simp (maxSteps:=1000000) -dsimp only [go_sem,hg,↓q2,aW,aP,aC,c0,c1,c3,g1]
        exact ⟨by omega,fin' 5 _ hA (by decide)⟩
       | true=>
        rw [c3] at hA
        simp only [Bool.not_true,aG] at hA
        simp (maxSteps:=1000000) -dsimp only [go_sem,hg,↓q2,aW,aP,aC,c0,c1,c3,g1]
        refine ⟨by omega,?_⟩
        refine aN (α:=Nat) (fun j=>[(2,.va (.c1 (.pt 0 0))),(5,.va (.c1 (.pt 1 0))),(9,iS .i64 k),(10,.va (.c1 (.pt 2 0))),(11,iS .i64 j)])
         (fun _=>[.cells (aC s) 25,.cells (aP t) 95,.cells (aW f) 97])
         (fun j=>j<=k/\((t.fs.take k).drop j).any (fun g=>decide (g.nm=f.nm))=(t.fs.take k).any (fun g=>decide (g.nm=f.nm))) (fun j=>k - j) 0 3 ⟨Nat.zero_le _,rfl⟩ ?_ ?_ ?_
        · simp [go_sem]
        · simp [go_sem,aC,aP,aW]
        have htk:(t.fs.take k).length=k:=by rw [List.length_take]; omega
        rintro j ⟨hj,ho2⟩
        rcases bC j k with hjt | hjg
        · have hgj:decide ((j:Int) < (k:Int))=true:=by simp; omega
          obtain ⟨d,hd⟩:∃ e,t.fs[j]? = some e:=⟨_,aU (by omega)⟩
          have hd':(t.fs.take k)[j]? = some d:=by rw [List.getElem?_take,if_pos hjt]; exact hd
          have q5:=aV (row:=aW) hd
          rw [gQ hd'] at ho2
          simp (maxSteps:=1000000) -dsimp only [go_sem,hgj,↓q5,aW,aP,aC,eI]
          refine ⟨by omega,fun hc=>?_,fun hc=>?_⟩
          · rw [hc,Bool.true_or] at ho2
            rw [<-ho2] at hA
            exact fin' 7 _ hA (by decide)
          · rw [hc,Bool.false_or] at ho2
            refine ⟨by omega,aE (j + 1) 3 ⟨by omega,ho2⟩ (by omega) ?_ ?_⟩
            · simp [go_sem]
            · simp [go_sem,aC,aP,aW]
        · obtain rfl:j=k:=by omega
          have hgj:decide ((j:Int) < (j:Int))=false:=by simp
          rw [List.drop_eq_nil_of_le (by omega)] at ho2
          rw [<-ho2] at hA
          simp only [List.any_nil,aG] at hA
          simp (maxSteps:=1000000) -dsimp only [go_sem,hgj,aW,aP,aC,uL,hit,hsf,hsd]
          cases c5:valF s.ss s.es f.ty with
          | true=>
           rw [c5] at hA
           simp (maxSteps:=1000000) -dsimp only [go_sem]
           refine ⟨by omega,aE (j + 1) 2 ⟨by omega,cB hA⟩ (by omega) ?_ ?_⟩
           · simp [go_sem]
           · simp [go_sem,aC,aP]
          | false=>
           rw [c5] at hA
           simp (maxSteps:=1000000) -dsimp only [go_sem]
           exact fin' 13 _ hA (by decide)
     · have g1:decide (0 < (k:Int))=true:=by simp; omega
       obtain ⟨g,hy⟩:∃ m,t.fs[k - 1]? = some m:=⟨_,aU (by omega)⟩
       have q4:((k:Int) - 1).toNat=k - 1:=by omega
       have q6:=pF (row:=aW) hy
       rw [g1,hy,Bool.true_and] at hA
       simp only at hA
       cases c2:decide (f.num<=g.num) with
       | true=>
        rw [c2] at hA
        simp (maxSteps:=1000000) -dsimp only [go_sem,hg,↓q2,aW,aP,aC,c0,c1,g1,q4,c2,hy,aH,forall_eq']
        exact ⟨by omega,by omega,by omega,fin' 2 _ hA (by decide)⟩
       | false=>
        rw [c2] at hA
        simp only [aG] at hA
        cases c3:cF (bl f.nm) with
        | false=>
         rw [c3] at hA
         simp (maxSteps:=1000000) -dsimp only [go_sem,hg,↓q2,aW,aP,aC,c0,c1,c3,g1,q4,c2,hy,aH,forall_eq']
         exact ⟨by omega,by omega,by omega,fin' 5 _ hA (by decide)⟩
        | true=>
         rw [c3] at hA
         simp only [Bool.not_true,aG] at hA
         simp (maxSteps:=1000000) -dsimp only [go_sem,hg,↓q2,aW,aP,aC,c0,c1,c3,g1,q4,c2,hy,aH,forall_eq']
         refine ⟨by omega,by omega,by omega,?_⟩
         refine aN (α:=Nat) (fun j=>[(2,.va (.c1 (.pt 0 0))),(5,.va (.c1 (.pt 1 0))),(9,iS .i64 k),(10,.va (.c1 (.pt 2 0))),(11,iS .i64 j)])
          (fun _=>[.cells (aC s) 25,.cells (aP t) 95,.cells (aW f) 97])
          (fun j=>j<=k/\((t.fs.take k).drop j).any (fun g=>decide (g.nm=f.nm))=(t.fs.take k).any (fun g=>decide (g.nm=f.nm))) (fun j=>k - j) 0 3 ⟨Nat.zero_le _,rfl⟩ ?_ ?_ ?_
         · simp [go_sem]
         · simp [go_sem,aC,aP,aW]
         have htk:(t.fs.take k).length=k:=by rw [List.length_take]; omega
         rintro j ⟨hj,ho2⟩
         rcases bC j k with hjt | hjg
         · have hgj:decide ((j:Int) < (k:Int))=true:=by simp; omega
           obtain ⟨d,hd⟩:∃ e,t.fs[j]? = some e:=⟨_,aU (by omega)⟩
           have hd':(t.fs.take k)[j]? = some d:=by rw [List.getElem?_take,if_pos hjt]; exact hd
           have q5:=aV (row:=aW) hd
           rw [gQ hd'] at ho2
           simp (maxSteps:=1000000) -dsimp only [go_sem,hgj,↓q5,aW,aP,aC,eI]
           refine ⟨by omega,fun hc=>?_,fun hc=>?_⟩
           · rw [hc,Bool.true_or] at ho2
             rw [<-ho2] at hA
             exact fin' 7 _ hA (by decide)
           · rw [hc,Bool.false_or] at ho2
             refine ⟨by omega,aE (j + 1) 3 ⟨by omega,ho2⟩ (by omega) ?_ ?_⟩
             · simp [go_sem]
             · simp [go_sem,aC,aP,aW]
         · obtain rfl:j=k:=by omega
           have hgj:decide ((j:Int) < (j:Int))=false:=by simp
           rw [List.drop_eq_nil_of_le (by omega)] at ho2
           rw [<-ho2] at hA
           simp only [List.any_nil,aG] at hA
           simp (maxSteps:=1000000) -dsimp only [go_sem,hgj,aW,aP,aC,uL,hit,hsf,hsd]
           cases c5:valF s.ss s.es f.ty with
           | true=>
            rw [c5] at hA
            simp (maxSteps:=1000000) -dsimp only [go_sem]
            refine ⟨by omega,aE (j + 1) 2 ⟨by omega,cB hA⟩ (by omega) ?_ ?_⟩
            · simp [go_sem]
            · simp [go_sem,aC,aP]
           | false=>
            rw [c5] at hA
            simp (maxSteps:=1000000) -dsimp only [go_sem]
            exact fin' 13 _ hA (by decide)
   · have hg:decide ((k:Int) < (t.fs.length:Int))=false:=by simp; omega
     obtain rfl:k=t.fs.length:=by omega
     rw [zG] at ho
     simp (maxSteps:=1000000) -dsimp only [go_sem,hg,aP]
     exact fin 0 _ (by rw [hF,<-ho])
mutual
def dirF:Ty->List ByteArray
 | .mk k _ n e=>bif k == 6 || k == 7 then [n] else eU e
def eU:List Ty->List ByteArray
 | []=>[]
 | t :: r=>dirF t ++ eU r
end
theorem rP:∀ (a b:List Ty),eU (a ++ b)=eU a ++ eU b
 | [],b=>rfl
 | t :: r,b=>by rw [List.cons_append,eU,eU,rP r b,List.append_assoc]
theorem DT:∀ {l:List Ty} {t:Ty},t ∈ l->(dirF t).length<=(eU l).length
 | x :: l,t,h=>by
  rw [eU,List.length_append]
  rcases List.mem_cons.1 h with rfl | h
  · omega
  · have:=DT h; omega
def aCJ (N:Nat):W.Spec:=fun av H K=>∃ t:Ty,av=[.va (.gs (aL t))]/\H=[]/\TyOk t/\t.h<=N/\(dirF t).length<=1000000000/\K (.va (.c1 (.fz ((dirF t).map bL)))) []
theorem aC3 {N:Nat} {t:Ty} {K:S->Hp->Prop} (h1:TyOk t) (h2:t.h<=N) (h3:(dirF t).length<=1000000000) (hK:K (.va (.c1 (.fz ((dirF t).map bL)))) []):aCJ N [.va (.gs (aL t))] [] K:=⟨t,rfl,rfl,h1,h2,h3,hK⟩
theorem aBX (l:List ByteArray):∀ r ∈ l.map bL,∀ c ∈ r,c.shut=true/\c.one:=fun r hr c hc=>by
 obtain ⟨x,_,rfl⟩:=List.mem_map.1 hr
 simp at hc; subst hc; simp [go_sem,C.shut]
theorem LY:∀ N,Meets Tryz.prog 87 (aCJ N)
 | 0=>⟨by kernel_rfl,by rintro xs vs E ro w K _ _ _ ⟨t,_,_,_,h,_⟩; have:=t.h_pos; omega⟩
 | N + 1=>by
  refine aF Tryz.func87 aKI 1 (by rw [Tryz.ntmps87]; decide) (aB (LY N) (aA _)) (fun av H K h=>by obtain ⟨_,rfl,_⟩:=h; rfl) ?_
  rintro av H K ⟨⟨k,s,n,e⟩,rfl,rfl,h1,h2,h3,hK⟩
  have hle:=h1.len
  have hoe:=h1.e
  simp only [Ty.e] at hle hoe
  have hD:=dirF.eq_1 k s n e
  simp (maxSteps:=1000000) -dsimp only [go_sem,aL,aT,aB8,aBT]
  refine ⟨fun c1=>?_,fun c1=>?_⟩
  · rw [c1,aI] at hD
    rw [hD] at hK
    refine .pub 1 _ _ _ rfl (.sel [] (by simp) (by simp [cP]) rfl (.done ?_))
    simp -dsimp only [go_sem,cP]
    simpa using hK
  · rw [c1,aG] at hD
    rw [hD] at hK h3
    refine eE (α:=Nat) (fun i=>[(1,.va (.c1 (.pt 0 0))),(3,.va (.c1 (.sl 1 (eU (e.take i)).length))),(4,iS .i64 i)]) (fun i=>[.cells (aL (.mk k s n e)) 28,.row ((eU (e.take i)).map bL) 9 1])
     (fun i=>i<=e.length) (fun i=>e.length - i) (.nil 3 9 1 rfl (mK 0 2 (Nat.zero_le _) ?_ ?_)) ?_
    · simp -dsimp only [go_sem]<;>simp [eU]
    · simp -dsimp only [go_sem,aL,aT]<;>simp [eU]
    intro i hi
    rcases bC i e.length with hlt | hge
    · have hg:decide ((i:Int) < (e.length:Int))=true:=by simp; omega
      obtain ⟨u,hx⟩:∃ t,e[i]? = some t:=⟨_,aU hlt⟩
      have q1:=aV (row:=aL) hx
      have hu:=bM hx
      have htn:eU (e.take (i + 1))=eU (e.take i) ++ dirF u:=by rw [fT hx,rP]; simp [eU]
      have hb:(eU (e.take (i + 1))).length<=1000000000:=by
       have:=rP (e.take (i + 1)) (e.drop (i + 1))
       rw [List.take_append_drop] at this
       rw [this,List.length_append] at h3; omega
      rw [htn,List.length_append] at hb
      simp (maxSteps:=1000000) -dsimp only [go_sem,hg,↓q1,gZ,aL,aT]
      refine ⟨by omega,aC3 (hoe u hu) ?_ ?_ ?_⟩
      · have:=Ty.hs_mem hu; rw [Ty.h] at h2; omega
      · have:=DT hu; omega
      simp (maxSteps:=1000000) -dsimp only [go_sem,TJ ZW]
      refine ⟨aBX _,by omega,by omega,aE (i + 1) 2 (by omega) (by omega) ?_ ?_⟩
      · simp -dsimp only [go_sem,htn]<;>simp
      · simp -dsimp only [go_sem,aL,aT,htn]<;>simp
    · have hg:decide ((i:Int) < (e.length:Int))=false:=by simp; omega
      obtain rfl:i=e.length:=by omega
      rw [List.take_length]
      simp (maxSteps:=1000000) -dsimp only [go_sem,hg,aL,aT]
      rw [<-List.length_map (f:=bL)]
      refine .pub 1 _ _ _ rfl (.sel [] (by simp) (by simp [cP]) rfl (.done ?_))
      simp -dsimp only [go_sem,cP]
      simpa using hK
def WT:W.Spec:=fun av H K=>∃ t:Ty,av=[.va (.gs (aL t))]/\H=[]/\TyOk t/\(dirF t).length<=1000000000/\K (.va (.c1 (.fz ((dirF t).map bL)))) []
theorem ZR {t:Ty} {K:S->Hp->Prop} (h1:TyOk t) (h3:(dirF t).length<=1000000000) (hK:K (.va (.c1 (.fz ((dirF t).map bL)))) []):WT [.va (.gs (aL t))] [] K:=⟨t,rfl,rfl,h1,h3,hK⟩
theorem U1:Meets Tryz.prog 87 WT:=eJ 0 LY fun _av _H _K ⟨t,e1,e2,h1,h3,hK⟩=>⟨t.h,t,e1,e2,h1,Nat.le_refl _,h3,hK⟩
def eN (x:ByteArray):Bool->List ByteArray->List ByteArray
 | d,[]=>bif d then [] else [x]
 | d,y :: r=>bif !d && (Op.bytesLess (bl x) (bl y) || bl x == bl y) then (bif Op.bytesLess (bl x) (bl y) then x :: y :: eN x true r else y :: eN x true r) else y :: eN x d r
theorem HL (x:ByteArray):∀ (d:Bool) (l:List ByteArray),(eN x d l).length<=l.length + 1
 | d,[]=>by cases d<;>simp [eN]
 | d,y :: r=>by
  have h1:=j5 x r
  have h2:=HL x d r
  rw [eN]
  cases d<;>cases Op.bytesLess (bl x) (bl y)<;>cases bl x == bl y<;>simp [h1] at h2 ⊢<;>omega
where j5 (x:ByteArray):∀ l,eN x true l=l
 | []=>rfl
 | y :: r=>by rw [eN,j5 x r]; rfl
def aDO:W.Spec:=fun av H K=>∃ (l:List ByteArray) (x:ByteArray),av=[.va (.c1 (.fz (l.map bL))),tS x]/\H=[]/\l.length<=1000000/\K (.va (.c1 (.fz ((eN x false l).map bL)))) []
theorem aBE {l:List ByteArray} {x:ByteArray} {K:S->Hp->Prop} (h:l.length<=1000000) (hK:K (.va (.c1 (.fz ((eN x false l).map bL)))) []):aDO [.va (.c1 (.fz (l.map bL))),tS x] [] K:=⟨l,x,rfl,rfl,h,hK⟩
theorem aLM:Meets Tryz.prog 88 aDO:=by
 refine aF Tryz.func88 aLV 2 (by rw [Tryz.ntmps88]; decide) (aA _) (fun av H K h=>by obtain ⟨_,_,rfl,_⟩:=h; rfl) ?_
 rintro av H K ⟨l,x,rfl,rfl,hl,hK⟩
 have hlen:=HL x false l
 simp (maxSteps:=1000000) -dsimp only [go_sem,aFL,aBF]
 refine eE (α:=Nat × Bool × List ByteArray) (fun z=>[(0,.va (.c1 (.fz (l.map bL)))),(1,tS x),(5,.va (.c1 (.sl 0 z.2.2.length))),(6,bS z.2.1),(7,iS .i64 z.1)]) (fun z=>[.row (z.2.2.map bL) 9 1])
  (fun z=>z.1<=l.length/\z.2.2 ++ eN x z.2.1 (l.drop z.1)=eN x false l) (fun z=>l.length - z.1) (.nil 5 9 1 rfl (mK (0,false,[]) 1 ⟨Nat.zero_le _,rfl⟩ ?_ ?_)) ?_
 · simp -dsimp only [go_sem]<;>simp
 · simp -dsimp only [go_sem]<;>simp
 rintro ⟨i,d,o⟩ ⟨hi,ho⟩
 simp only at hi ho ⊢
 have hol:o.length<=l.length + 1:=by
  have:=congrArg List.length ho
  rw [List.length_append] at this; omega
 rcases bC i l.length with hlt | hge
 · have hg:decide ((i:Int) < (l.length:Int))=true:=by simp; omega
   obtain ⟨y,hx⟩:∃ t,l[i]? = some t:=⟨_,aU hlt⟩
   have q1:=aV (row:=bL) hx
   have hdr:l.drop i=y :: l.drop (i + 1):=by
    obtain ⟨h,rfl⟩:=a6.1 hx
    exact List.drop_eq_getElem_cons h
   rw [hdr,eN] at ho
   have hst:∀ (u:ByteArray),[[C.vl (.string u)]]=[u].map bL:=fun _=>rfl
   cases d with
   | true=>
    simp only [Bool.not_true,Bool.false_and,aG] at ho
    simp (maxSteps:=1000000) -dsimp only [go_sem,hg,↓q1]
    and_intros
    all_goals first
     | omega
     | skip
    refine aE (i + 1,true,o ++ [y]) 1 ⟨by simp only; omega,by simp only [List.append_assoc,List.singleton_append]; exact ho⟩ (by simp only; omega) ?_ ?_
    · simp -dsimp only [go_sem]<;>simp
    · simp -dsimp only [go_sem]<;>simp
   | false=>
    simp only [Bool.not_false,Bool.true_and] at ho
    cases c2:Op.bytesLess (bl x) (bl y) with
    | true=>
     rw [c2] at ho
     simp only [Bool.true_or,aI] at ho
     simp (maxSteps:=1000000) -dsimp only [go_sem,hg,↓q1,c2,Bool.true_or]
     and_intros
     all_goals first
      | omega
      | skip
     refine aE (i + 1,true,o ++ [x,y]) 1 ⟨by simp only; omega,by simp only [List.append_assoc,List.cons_append,List.nil_append]; exact ho⟩ (by simp only; omega) ?_ ?_
     · simp -dsimp only [go_sem]<;>simp
     · simp -dsimp only [go_sem]<;>simp
    | false=>
     rw [c2] at ho
     simp only [Bool.false_or,aG] at ho
     cases c3:bl x == bl y with
     | true=>
      rw [c3] at ho
      simp only [aI] at ho
      simp (maxSteps:=1000000) -dsimp only [go_sem,hg,↓q1,c2,c3,Bool.false_or]
      and_intros
      all_goals first
       | omega
       | skip
      refine aE (i + 1,true,o ++ [y]) 1 ⟨by simp only; omega,by simp only [List.append_assoc,List.singleton_append]; exact ho⟩ (by simp only; omega) ?_ ?_
      · simp -dsimp only [go_sem]<;>simp
      · simp -dsimp only [go_sem]<;>simp
     | false=>
      rw [c3] at ho
      simp only [aG] at ho
      simp (maxSteps:=1000000) -dsimp only [go_sem,hg,↓q1,c2,c3,Bool.false_or]
      and_intros
      all_goals first
       | omega
       | skip
      refine aE (i + 1,false,o ++ [y]) 1 ⟨by simp only; omega,by simp only [List.append_assoc,List.singleton_append]; exact ho⟩ (by simp only; omega) ?_ ?_
      · simp -dsimp only [go_sem]<;>simp
      · simp -dsimp only [go_sem]<;>simp
 · have hg:decide ((i:Int) < (l.length:Int))=false:=by simp; omega
   obtain rfl:i=l.length:=by omega
   rw [List.drop_length] at ho
   simp only [eN] at ho
   cases d with
   | true=>
    simp only [aI,List.append_nil] at ho
    rw [<-ho] at hK
    simp (maxSteps:=1000000) -dsimp only [go_sem,hg]
    rw [<-List.length_map (f:=bL)]
    refine .pub 0 _ _ _ rfl (.sel [] (by simp) (by simp [cP]) rfl (.done ?_))
    simp -dsimp only [go_sem,cP]
    simpa using hK
   | false=>
    simp only [aG] at ho
    rw [<-ho] at hK
    simp (maxSteps:=1000000) -dsimp only [go_sem,hg]
    refine ⟨by omega,?_⟩
    have e1:o.length + 1=((o ++ [x]).map bL).length:=by simp
    have e2:o.map bL ++ [[C.vl (.string x)]]=(o ++ [x]).map bL:=by simp
    rw [e1,e2]
    refine .pub 0 _ _ _ rfl (.sel [] (by simp) (by simp [cP]) rfl (.done ?_))
    simp -dsimp only [go_sem,cP]
    simpa using hK
abbrev D6 (a b:ByteArray):Prop:=bl a < bl b
theorem aBN (x:List UInt8):∀ y:List UInt8,Op.bytesLess x y=decide (x < y):=by
 induction x with
 | nil=>intro y; cases y<;>simp [Op.bytesLess]
 | cons a x ih=>
  intro y
  cases y with
  | nil=>simp [Op.bytesLess]
  | cons b y=>
   have:=ih y
   rw [Op.bytesLess,this,Bool.eq_iff_iff]
   simp [List.cons_lt_cons_iff]
theorem XN (a b:ByteArray):Op.bytesLess (bl a) (bl b)=decide (D6 a b):=aBN _ _
theorem mF (a:ByteArray):¬ D6 a a:=List.lt_irrefl _
theorem D2 {a b c:ByteArray} (h:D6 a b) (h2:D6 b c):D6 a c:=List.lt_trans h h2
theorem PE {a b:ByteArray} (h:¬ D6 a b) (h2:a ≠ b):D6 b a:=by
 have h3:bl b<=bl a:=List.not_lt.1 h
 exact Std.lt_of_le_of_ne h3 (fun e=>h2 (lY e.symm))
def Asc (l:List ByteArray):Prop:=l.Pairwise D6
theorem J8:∀ {a b:List ByteArray},Asc a->Asc b->(∀ x,x ∈ a ↔ x ∈ b)->a=b
 | [],[],_,_,_=>rfl
 | [],y :: b,_,_,h=>by have:=(h y).2 List.mem_cons_self; cases this
 | x :: a,[],_,_,h=>by have:=(h x).1 List.mem_cons_self; cases this
 | x :: a,y :: b,h1,h2,h=>by
  obtain ⟨p1,p2⟩:=List.pairwise_cons.1 h1
  obtain ⟨p3,p4⟩:=List.pairwise_cons.1 h2
  have e:x=y:=by
   rcases List.mem_cons.1 ((h x).1 List.mem_cons_self) with e | e
   · exact e
   · rcases List.mem_cons.1 ((h y).2 List.mem_cons_self) with e2 | e2
     · exact e2.symm
     · exact absurd (D2 (p1 y e2) (p3 x e)) (mF x)
  subst e
  rw [J8 p2 p4 fun z=>?_]
  constructor
  · intro hz
    rcases List.mem_cons.1 ((h z).1 (List.mem_cons_of_mem _ hz)) with e | e
    · exact absurd (p1 z hz) (by rw [e]; exact mF x)
    · exact e
  · intro hz
    rcases List.mem_cons.1 ((h z).2 (List.mem_cons_of_mem _ hz)) with e | e
    · exact absurd (p3 z hz) (by rw [e]; exact mF x)
    · exact e
theorem Asc.nodup {l:List ByteArray} (h:Asc l):l.Nodup:=by
 unfold List.Nodup
 refine List.Pairwise.imp ?_ h
 intro a b h e
 subst e
 exact mF a h
theorem j5 (x:ByteArray):∀ l,eN x true l=l
 | []=>rfl
 | y :: r=>by rw [eN,j5 x r]; rfl
theorem jP {x z:ByteArray}:∀ {l:List ByteArray},z ∈ eN x false l ↔ z=x\/z ∈ l
 | []=>by simp [eN]
 | y :: r=>by
  rw [eN,j5]
  cases c1:Op.bytesLess (bl x) (bl y) with
  | true=>simp
  | false=>
   cases c2:bl x == bl y with
   | true=>
    have:x=y:=lY (by simpa using c2)
    subst this
    simp
   | false=>
    have:=jP (x:=x) (z:=z) (l:=r)
    simp [this]
    constructor
    · rintro (h | h | h)
      · exact .inr (.inl h)
      · exact .inl h
      · exact .inr (.inr h)
    · rintro (h | h | h)
      · exact .inr (.inl h)
      · exact .inl h
      · exact .inr (.inr h)
theorem HF {x:ByteArray}:∀ {l:List ByteArray},Asc l->Asc (eN x false l)
 | [],_=>by simp [eN,Asc]
 | y :: r,h=>by
  obtain ⟨p1,p2⟩:=List.pairwise_cons.1 h
  rw [eN,j5]
  cases c1:Op.bytesLess (bl x) (bl y) with
  | true=>
   rw [XN] at c1
   have c1:=of_decide_eq_true c1
   simp only [Bool.not_false,Bool.true_or,Bool.and_true,aI]
   refine List.pairwise_cons.2 ⟨fun z hz=>?_,h⟩
   rcases List.mem_cons.1 hz with rfl | hz
   · exact c1
   · exact D2 c1 (p1 z hz)
  | false=>
   cases c2:bl x == bl y with
   | true=>exact h
   | false=>
    rw [XN] at c1
    have c1:=of_decide_eq_false c1
    have c2:x ≠ y:=fun e=>by subst e; simp at c2
    simp only [Bool.not_false,Bool.true_and,Bool.or_self,aG]
    refine List.pairwise_cons.2 ⟨fun z hz=>?_,HF p2⟩
    rcases jP.1 hz with rfl | hz
    · exact PE c1 c2
    · exact p1 z hz
theorem T0 {l:List ByteArray} (h:l.Nodup):Asc (vV l):=by
 have h1:((l.map bl).mergeSort fun x y=>decide (x<=y)).Pairwise fun a b=>decide (a<=b)=true:=
  List.pairwise_mergeSort (le:=fun (x y:List UInt8)=>decide (x<=y)) (fun (a b c:List UInt8) h1 h2=>decide_eq_true (List.le_trans (of_decide_eq_true h1) (of_decide_eq_true h2))) (fun (a b:List UInt8)=>by
   rcases List.le_total a b with h | h<;>simp [h]) _
 have h2:((l.map bl).mergeSort fun x y=>decide (x<=y)).Nodup:=by
  rw [(List.mergeSort_perm _ _).nodup_iff]
  exact List.Pairwise.map bl (fun a b (hab:a ≠ b) e=>hab (lY e)) h
 unfold vV Asc
 rw [List.pairwise_map]
 refine List.Pairwise.imp₂ (fun a b h1 h2=>?_) h1 h2
 exact Std.lt_of_le_of_ne (of_decide_eq_true h1) h2
theorem PW (ss:List St) (n:ByteArray):Asc (fR ss n):=T0 (sB ss n)
theorem P3 {e:List Ty} (h:((e.length:Int) == 0)=true):e=[]:=by simpa using h
theorem KD (ss:List St) (es:List En):∀ (N:Nat) (t:Ty),t.h<=N->valF ss es t=true->dirF t=bif bQ t then [bT t] else []
 | 0,t,h,_=>absurd h (by have:=t.h_pos; omega)
 | N + 1,.mk k s n e,h,hv=>by
  cases k5:k == 5 with
  | true=>
   obtain rfl:k=5:=by simpa using k5
   obtain ⟨u,rfl,hu⟩:=wX hv
   have:=KD ss es N u (by rw [Ty.h,Ty.hs,Ty.hs] at h; omega) hu
   unfold bQ bT
   rw [DM]
   rw [dirF,eU,eU,List.append_nil,this]
   rfl
  | false=>
   have h1:fI (.mk k s n e)=.mk k s n e:=xG (by rw [k5]; rfl)
   unfold bQ bT
   rw [h1,dirF]
   simp only [Ty.k,Ty.n]
   cases k67:(k == 6 || k == 7) with
   | true=>rfl
   | false=>
    have he:e=[]:=by
     rw [Bool.or_eq_false_iff] at k67
     rw [valF,k5,k67.1,k67.2] at hv
     cases k1:k == 1<;>cases k2:k == 2<;>cases k3:k == 3<;>cases k4:k == 4<;>rw [k1,k2,k3,k4] at hv<;>simp only [aI,aG,Bool.and_eq_true,reduceCtorEq] at hv<;>first | exact P3 hv.2 | exact absurd hv (by decide)
    subst he; rfl
theorem G9 {ss:List St} {es:List En} {t:Ty} (hv:valF ss es t=true):dirF t=bif bQ t then [bT t] else []:=KD ss es t.h t (Nat.le_refl _) hv
structure UI (ss:List St) (n:ByteArray) (i:Nat) (todo o:List ByteArray):Prop where
 hd:∃ r,todo=n :: r/\r.Nodup/\∀ x,x ∈ o ↔ x ∈ r
 rc:∀ x ∈ o,Reach ss n x
 dn:∀ j a,j < i->todo[j]? = some a->∀ y,dQ ss a y->y ∈ o
 asc:Asc o
theorem UI.init (ss:List St) (n:ByteArray):UI ss n 0 [n] []:=⟨⟨[],rfl,.nil,fun _x=>Iff.rfl⟩,fun _x h=>(List.not_mem_nil h).elim,fun _j _a h=>absurd h (Nat.not_lt_zero _),List.Pairwise.nil⟩
theorem O3 {ss:List St} {es:List En} (g:Gd ss es) {n:ByteArray} {l:List ByteArray} (h:l.Nodup) (hr:∀ x ∈ l,Reach ss n x):l.length<=32:=Nat.le_trans (sK h fun x hx=>(iZ ss n x).2 (hr x hx)) (g.vlen n)
theorem UI.len {ss:List St} {es:List En} (g:Gd ss es) {n:ByteArray} {i:Nat} {todo o:List ByteArray} (h:UI ss n i todo o):todo.length<=33/\o.length<=32:=by
 obtain ⟨r,rfl,h1,h2⟩:=h.hd
 have:=O3 g h1 fun x hx=>h.rc x ((h2 x).2 hx)
 have:=O3 g h.asc.nodup h.rc
 simp only [List.length_cons]; omega
theorem UI.rch {ss:List St} {n:ByteArray} {i k:Nat} {todo o:List ByteArray} (h:UI ss n i todo o) {a y:ByteArray} (ha:todo[k]? = some a) (hy:dQ ss a y):Reach ss n y:=by
 obtain ⟨r,rfl,h1,h2⟩:=h.hd
 cases k with
 | zero=>simp at ha; subst ha; exact .one hy
 | succ k=>
  simp at ha
  exact .more (h.rc a ((h2 a).2 (bM ha))) hy
theorem UI.add {ss:List St} {n:ByteArray} {i:Nat} {todo o:List ByteArray} (h:UI ss n i todo o) {y:ByteArray} (hr:Reach ss n y) (hy:y ∉ o) (hi:i<=todo.length):UI ss n i (todo ++ [y]) (eN y false o):=by
 obtain ⟨r,rfl,h1,h2⟩:=h.hd
 refine ⟨⟨r ++ [y],by simp,?_,fun x=>?_⟩,fun x hx=>?_,fun j a hj ha z hz=>?_,HF h.asc⟩
 · rw [List.nodup_append]
   exact ⟨h1,by simp,fun a ha b hb=>by simp at hb; subst hb; exact fun e=>hy ((h2 b).2 (e ▸ ha))⟩
 · rw [jP,h2]; simp [or_comm]
 · rcases jP.1 hx with rfl | hx
   · exact hr
   · exact h.rc x hx
 · rw [List.getElem?_append_left (by omega)] at ha
   exact jP.2 (.inr (h.dn j a hj ha z hz))
theorem UI.next {ss:List St} {n:ByteArray} {i:Nat} {todo o:List ByteArray} (h:UI ss n i todo o) {a:ByteArray} (ha:todo[i]? = some a) (hy:∀ y,dQ ss a y->y ∈ o):UI ss n (i + 1) todo o:=by
 refine ⟨h.hd,h.rc,fun j b hj hb y hyb=>?_,h.asc⟩
 rcases bC j i with h4 | h4
 · exact h.dn j b h4 hb y hyb
 · obtain rfl:j=i:=by omega
   rw [ha] at hb; obtain rfl:=bR hb
   exact hy y hyb
theorem UI.fin {ss:List St} {n:ByteArray} {todo o:List ByteArray} (h:UI ss n todo.length todo o):o=fR ss n:=by
 refine J8 h.asc (PW ss n) fun x=>?_
 rw [C6]
 refine ⟨h.rc x,fun hx=>?_⟩
 obtain ⟨r,e,h1,h2⟩:=h.hd
 have hn:∀ y,dQ ss n y->y ∈ o:=h.dn 0 n (by rw [e]; simp) (by rw [e]; rfl)
 induction hx with
 | one h=>exact hn _ h
 | more _ h3 ih=>
  obtain ⟨j,hj⟩:=List.mem_iff_getElem?.1 ((h2 _).1 ih)
  rename_i b c _
  have hj2:todo[j + 1]? = some b:=by rw [e]; simpa using hj
  exact h.dn (j + 1) _ (a6.1 hj2).1 hj2 _ h3
def aDJ:W.Spec:=fun av H K=>∃ (s:Sc) (n:ByteArray),av=[.va (.gs (aC s)),tS n]/\H=[]/\s.fit/\Gd s.ss s.es/\K (.va (.c1 (.fz ((fR s.ss n).map bL)))) []
theorem aE2 {s:Sc} {n:ByteArray} {K:S->Hp->Prop} (h:s.fit) (g:Gd s.ss s.es) (hK:K (.va (.c1 (.fz ((fR s.ss n).map bL)))) []):aDJ [.va (.gs (aC s)),tS n] [] K:=⟨s,n,rfl,rfl,h,g,hK⟩
theorem aA1 {ss:List St} {es:List En} {t:Ty} (hv:valF ss es t=true):(dirF t).length<=1:=by
 rw [G9 hv]; cases bQ t<;>simp
theorem MD {ss:List St} {es:List En} {t:Ty} (hv:valF ss es t=true) {y:ByteArray}:y ∈ dirF t ↔ bQ t=true/\bT t=y:=by
 rw [G9 hv]; cases bQ t<;>simp [eq_comm]
theorem aG8:Meets Tryz.prog 49 aDJ:=by
 refine aF Tryz.func49 aKR 2 (by rw [Tryz.ntmps49]; decide) (aB F0 (aB U1 (aJ SP (aB aLM (aA _))))) (fun av H K h=>by obtain ⟨_,_,rfl,_⟩:=h; rfl) ?_
 rintro av H K ⟨s,n,rfl,rfl,hs,g,hK⟩
 simp (maxSteps:=1000000) -dsimp only [go_sem,aC,aC9,aFA]
 refine eE (α:=Nat × List ByteArray × List ByteArray) (fun z=>[(2,.va (.c1 (.pt 0 0))),(5,.va (.c1 (.fz (z.2.2.map bL)))),(6,.va (.c1 (.sl 1 z.2.1.length))),(7,iS .i64 z.1)]) (fun z=>[.cells (aC s) 25,.row (z.2.1.map bL) 9 1])
  (fun z=>z.1<=z.2.1.length/\UI s.ss n z.1 z.2.1 z.2.2) (fun z=>34 - z.1) (.nf 5 (mK (0,[n],[]) 2 ⟨Nat.zero_le _,UI.init _ _⟩ ?_ ?_)) ?_
 · simp -dsimp only [go_sem]<;>simp
 · simp -dsimp only [go_sem,aC]<;>simp
 rintro ⟨i,todo,o⟩ ⟨hi,hu⟩
 simp only at hi hu ⊢
 obtain ⟨htl,hol⟩:=hu.len g
 rcases bC i todo.length with hlt | hge
 · have hg:decide ((i:Int) < (todo.length:Int))=true:=by simp; omega
   obtain ⟨a,ha⟩:∃ a,todo[i]? = some a:=⟨_,aU hlt⟩
   have q1:=aV (row:=bL) ha
   simp (maxSteps:=1000000) -dsimp only [go_sem,hg,aC,ha,aH,forall_eq']
   refine ⟨by omega,hlt,kZ hs ?_⟩
   generalize hx:(fS s.ss a).getD default=x
   have hxf:∀ f ∈ x.fs,f.ok/\valF s.ss s.es f.ty=true:=fun f hf=>by
    cases hc:fS s.ss a with
    | none=>rw [hc] at hx; subst hx; cases hf
    | some t=>
     rw [hc] at hx
     subst hx
     exact ⟨(hs.ok.ss _ (gE hc).1).fs f hf,g.val _ (gE hc).1 f hf⟩
   have hxl:x.fs.length<=9223372036854775807:=by
    cases hc:fS s.ss a with
    | none=>rw [hc] at hx; subst hx; exact Nat.zero_le _
    | some t=>rw [hc] at hx; subst hx; exact (hs.ok.ss _ (gE hc).1).len
   have hxr:∀ y,dQ s.ss a y ↔ BP x y:=fun y=>by unfold dQ; rw [hx]
   simp (maxSteps:=1000000) -dsimp only [go_sem,aP]
   refine aN (α:=Nat × List ByteArray × List ByteArray) (fun z=>[(2,.va (.c1 (.pt 0 0))),(5,.va (.c1 (.fz (z.2.2.map bL)))),(6,.va (.c1 (.sl 1 z.2.1.length))),(7,iS .i64 i),(8,.va (.c1 (.pt 2 0))),(10,iS .i64 z.1)]) (fun z=>[.cells (aC s) 25,.row (z.2.1.map bL) 9 1,.cells (aP x) 95])
    (fun z=>z.1<=x.fs.length/\z.2.1[i]? = some a/\UI s.ss n i z.2.1 z.2.2/\∀ f ∈ x.fs.take z.1,bQ f.ty=true->bT f.ty ∈ z.2.2) (fun z=>x.fs.length - z.1) (0,todo,o) 3 ⟨Nat.zero_le _,ha,hu,fun f hf=>by cases hf⟩ ?_ ?_ ?_
   · simp -dsimp only [go_sem]<;>simp
   · simp -dsimp only [go_sem,aC,aP]<;>simp
   clear hu ha hlt hi htl hol hg q1
   rintro ⟨k,td,o⟩ ⟨hk,ha,hu,hr⟩
   simp only at hk ha hu hr ⊢
   obtain ⟨htl,hol⟩:=hu.len g
   have hil:=(a6.1 ha).1
   rcases bC k x.fs.length with hlt | hge
   · have hg:decide ((k:Int) < (x.fs.length:Int))=true:=by simp; omega
     obtain ⟨f,hf⟩:∃ a,x.fs[k]? = some a:=⟨_,aU hlt⟩
     have q1:=aV (row:=aW) hf
     obtain ⟨hfo,hfv⟩:=hxf f (bM hf)
     simp (maxSteps:=1000000) -dsimp only [go_sem,hg,↓q1,aC,aP,aW,uL]
     have hdl:=aA1 hfv
     refine ⟨by omega,ZR hfo.ty (by omega) ?_⟩
     simp (maxSteps:=1000000) -dsimp only [go_sem]
     have hdm:∀ y ∈ dirF f.ty,Reach s.ss n y:=fun y hy=>by
      obtain ⟨h1,h2⟩:=(MD hfv).1 hy
      exact hu.rch ha ((hxr y).2 ⟨f,bM hf,h1,h2⟩)
     have hdf:(∀ o':List ByteArray,(∀ y ∈ dirF f.ty,y ∈ o')->(∀ f ∈ x.fs.take k,bQ f.ty=true->bT f.ty ∈ o')->∀ f ∈ x.fs.take (k + 1),bQ f.ty=true->bT f.ty ∈ o'):=fun o' h1 h2 f' hf' hn=>by
      rw [fT hf] at hf'
      rcases List.mem_append.1 hf' with h | h
      · exact h2 f' h hn
      · obtain rfl:f'=f:=by simpa using h
        exact h1 _ ((MD hfv).2 ⟨hn,rfl⟩)
     generalize dirF f.ty=l at *
     refine aN (α:=Nat × List ByteArray × List ByteArray) (fun z=>[(2,.va (.c1 (.pt 0 0))),(5,.va (.c1 (.fz (z.2.2.map bL)))),(6,.va (.c1 (.sl 1 z.2.1.length))),(7,iS .i64 i),(8,.va (.c1 (.pt 2 0))),(10,iS .i64 k),(11,.va (.c1 (.fz (l.map bL)))),(12,iS .i64 z.1)]) (fun z=>[.cells (aC s) 25,.row (z.2.1.map bL) 9 1,.cells (aP x) 95])
      (fun z=>z.1<=l.length/\z.2.1[i]? = some a/\UI s.ss n i z.2.1 z.2.2/\(∀ f ∈ x.fs.take k,bQ f.ty=true->bT f.ty ∈ z.2.2)/\∀ y ∈ l.take z.1,y ∈ z.2.2) (fun z=>l.length - z.1) (0,td,o) 3 ⟨Nat.zero_le _,ha,hu,hr,fun f hf=>by cases hf⟩ ?_ ?_ ?_
     · simp -dsimp only [go_sem]<;>simp
     · simp -dsimp only [go_sem,aC,aP]<;>simp
     clear hu ha hil htl hol hg q1 hr
     rintro ⟨j,td,o⟩ ⟨hj,ha,hu,hr,hjm⟩
     simp only at hj ha hu hr hjm ⊢
     obtain ⟨htl,hol⟩:=hu.len g
     have hil:=(a6.1 ha).1
     rcases bC j l.length with hjt | hjg
     · have hg:decide ((j:Int) < (l.length:Int))=true:=by simp; omega
       obtain ⟨y,hy⟩:∃ a,l[j]? = some a:=⟨_,aU hjt⟩
       have q1:=aV (row:=bL) hy
       have hbs:B5 (o.map bL):=tY (by omega)
       have e0:(0<=(o.length:Int))=True:=by simp
       have e1:((o.length:Int)<=9223372036854775807)=True:=by simp; omega
       have hto:o.take o.length=o:=List.take_length
       have hjm':∀ o':List ByteArray,(∀ z ∈ o,z ∈ o')->y ∈ o'->∀ z ∈ l.take (j + 1),z ∈ o':=fun o' h1 h2 z hz=>by
        rw [fT hy] at hz
        rcases List.mem_append.1 hz with h | h
        · exact h1 z (hjm z h)
        · obtain rfl:z=y:=by simpa using h
          exact h2
       cases hc:cU o y with
       | true=>
        simp (maxSteps:=1000000) -dsimp only [go_sem,hg,↓q1,aC,aP,hbs,e0,e1,Int.toNat_natCast,hto,hc]
        refine ⟨by omega,by omega,aE (j + 1,td,o) 3 ⟨by simp only; omega,ha,hu,hr,hjm' o (fun z h=>h) ((pC _ _).1 hc)⟩ (by simp only; omega) ?_ ?_⟩
        · simp -dsimp only [go_sem]<;>simp
        · simp -dsimp only [go_sem,aC,aP]<;>simp
       | false=>
        have hyo:=tT.1 hc
        have hua:=hu.add (hdm y (bM hy)) hyo (by omega)
        have hmo:∀ z ∈ o,z ∈ eN y false o:=fun z hz=>jP.2 (.inr hz)
        have ha':(td ++ [y])[i]? = some a:=by rw [List.getElem?_append_left hil]; exact ha
        simp (maxSteps:=1000000) -dsimp only [go_sem,hg,↓q1,aC,aP,hbs,e0,e1,Int.toNat_natCast,hto,hc]
        refine ⟨by omega,by omega,aBE (by omega) ?_⟩
        simp (maxSteps:=1000000) -dsimp only [go_sem]
        and_intros
        all_goals first
         | omega
         | skip
        refine aE (j + 1,td ++ [y],eN y false o) 3 ⟨by simp only; omega,ha',hua,fun f hf hn=>hmo _ (hr f hf hn),hjm' _ hmo (jP.2 (.inl rfl))⟩ (by simp only; omega) ?_ ?_
        · simp -dsimp only [go_sem]<;>simp
        · simp -dsimp only [go_sem,aC,aP]<;>simp
     · have hg:decide ((j:Int) < (l.length:Int))=false:=by simp; omega
       obtain rfl:j=l.length:=by omega
       rw [List.take_length] at hjm
       simp (maxSteps:=1000000) -dsimp only [go_sem,hg,aC,aP]
       refine ⟨by omega,aE (k + 1,td,o) 3 ⟨by simp only; omega,ha,hu,hdf o hjm hr⟩ (by simp only; omega) ?_ ?_⟩
       · simp -dsimp only [go_sem]<;>simp
       · simp -dsimp only [go_sem,aC,aP]<;>simp
   · have hg:decide ((k:Int) < (x.fs.length:Int))=false:=by simp; omega
     obtain rfl:k=x.fs.length:=by omega
     rw [List.take_length] at hr
     simp (maxSteps:=1000000) -dsimp only [go_sem,hg,aC,aP]
     refine ⟨by omega,aE (i + 1,td,o) 2 ⟨by simp only; omega,hu.next ha fun y hy=>?_⟩ (by simp only; omega) ?_ ?_⟩
     · obtain ⟨f,h1,h2,rfl⟩:=(hxr y).1 hy
       exact hr f h1 h2
     · simp -dsimp only [go_sem]<;>simp
     · simp -dsimp only [go_sem,aC]<;>simp
 · have hg:decide ((i:Int) < (todo.length:Int))=false:=by simp; omega
   obtain rfl:i=todo.length:=by omega
   obtain rfl:=hu.fin
   simp (maxSteps:=1000000) -dsimp only [go_sem,hg,aC]
   exact .sel [] (by simp) (by simp) rfl (.done (by simpa [go_sem] using hK))
def dY:List St->List Int->ByteArray->Int
 | s :: ss,d :: ds,n=>bif decide (s.nm=n) then d else dY ss ds n
 | _,_,_=>0
theorem TH {ss:List St} {ds:List Int} {i:Nat} {x:St} {d:Int} (hx:ss[i]? = some x) (hd:ds[i]? = some d) (n:ByteArray):dY (ss.drop i) (ds.drop i) n=bif decide (x.nm=n) then d else dY (ss.drop (i + 1)) (ds.drop (i + 1)) n:=by
 obtain ⟨h,rfl⟩:=a6.1 hx
 obtain ⟨h2,rfl⟩:=a6.1 hd
 rw [List.drop_eq_getElem_cons h,List.drop_eq_getElem_cons h2]; rfl
theorem Z4 {ss:List St} {ds:List Int} (n:ByteArray):dY (ss.drop ss.length) ds n=0:=by rw [List.drop_length]; simp [dY]
theorem wC {n:ByteArray}:∀ {ss:List St} {ds:List Int},fS ss n=none->dY ss ds n=0
 | [],_,_=>by simp [dY]
 | s :: ss,[],_=>by simp [dY]
 | s :: ss,d :: ds,h=>by
  unfold fS at h
  rw [List.find?_cons] at h
  rw [dY]
  cases hc:decide (s.nm=n) with
  | true=>rw [hc] at h; simp at h
  | false=>rw [hc] at h; exact wC (ss:=ss) h
theorem w9 {n:ByteArray} {u:St}:∀ {ss:List St} {ds:List Int},ss.length=ds.length->fS ss n=some u->∃ j:Nat,ss[j]? = some u/\ds[j]? = some (dY ss ds n)
 | [],_,_,h=>by cases h
 | s :: ss,[],hl,_=>by simp at hl
 | s :: ss,d :: ds,hl,h=>by
  unfold fS at h
  rw [List.find?_cons] at h
  rw [dY]
  cases hc:decide (s.nm=n) with
  | true=>
   rw [hc] at h
   obtain rfl:s=u:=by simpa using h
   exact ⟨0,rfl,rfl⟩
  | false=>
   rw [hc] at h
   obtain ⟨j,h1,h2⟩:=w9 (ss:=ss) (ds:=ds) (by simpa using hl) h
   exact ⟨j + 1,by simpa using h1,by simpa using h2⟩
def ND (rs:List (List C)):Prop:=∃ l:List Int,rs=l.map cL
def EP (N:Nat):List S->Prop:=fun av=>match av with
 | [.va (.gs r),.va (.c1 (.fz ds)),.va (.gs q)]=>kK r/\(ND ds/\ds.length=(C.sc r).ss.length/\∀ d ∈ ds.map C.it,0<=d/\d<=1000000000000)/\eW q/\(cH (C.ty q)).1<=1000000000/\(C.ty q).h<=N
 | _=>False
theorem mD {N:Nat} {av:List S} (h:EP N av):∃ (s:Sc) (l:List Int) (t:Ty),av=[.va (.gs (aC s)),.va (.c1 (.fz (l.map cL))),.va (.gs (aL t))]/\s.fit/\(l.length=s.ss.length/\∀ d ∈ l,0<=d/\d<=1000000000000)/\TyOk t/\(cH t).1<=1000000000/\t.h<=N:=by
 unfold EP at h
 split at h
 · obtain ⟨⟨a,rfl,ha⟩,⟨⟨l,rfl⟩,h1,h2⟩,⟨b,rfl,hb⟩,h3,h4⟩:=h
   rw [fG] at h3 h4
   rw [fV] at h1
   rw [yP] at h2
   exact ⟨a,l,b,rfl,ha,⟨by simpa using h1,h2⟩,hb,h3,h4⟩
 · exact h.elim
noncomputable def NI:List S->A:=fun av=>match av with
 | [.va (.gs r),.va (.c1 (.fz ds)),.va (.gs q)]=>iA .i64 (b6 (dY (C.sc r).ss (ds.map C.it)) (C.ty q))
 | _=>.gs []
noncomputable def NO (N:Nat):Fun:=⟨EP N,NI,fun av h=>by obtain ⟨a,l,b,rfl,_⟩:=mD h; trivial⟩
theorem U9 {N:Nat}:∀ av H K,(NO N).sp av H K->av.length=3:=fun av H K h=>by obtain ⟨a,l,b,rfl,_⟩:=mD h.1.1; rfl
attribute [go_sem] NO EP NI
theorem w5 {s:Int} {n:ByteArray} {u:Ty} {r:List Ty}:cH (.mk 5 s n (u :: r))=((cH u).1 + 1,(cH u).2):=by simp [cH,XJ]
theorem HV {k s:Int} {n:ByteArray} {e:List Ty} (h:(k == 5 && decide (0 < (e.length:Int)))=false):cH (.mk k s n e)=(0,.mk k s n e):=by
 rw [cH]
 cases hk:k == 5 with
 | false=>rfl
 | true=>
  rw [hk,Bool.true_and] at h
  have:e=[]:=List.length_eq_zero_iff.1 (by simp at h; simp [h])
  subst this; rfl
theorem OY {dp:ByteArray->Int} {s:Int} {n:ByteArray} {u:Ty} {r:List Ty}:b6 dp (.mk 5 s n (u :: r))=1 + b6 dp u:=by unfold b6; rw [w5]; simp only; omega
theorem uW:∀ N,Meets Tryz.prog 89 (NO N).sp
 | 0=>⟨by kernel_rfl,by rintro xs vs E ro w K _ _ _ ⟨⟨h,_⟩,_⟩; obtain ⟨_,_,a,_,_,_,_,_,h⟩:=mD h; have:=a.h_pos; omega⟩
 | N + 1=>by
  refine aF Tryz.func89 aKQ 3 (by rw [Tryz.ntmps89]; decide) (aJ (uW N) (aA _)) U9 ?_
  rintro av H K ⟨⟨h,rfl⟩,hK⟩
  obtain ⟨sc,l,t,rfl,hs,⟨hl,hb⟩,ht,hlv,hh⟩:=mD h
  have hK:K (iS .i64 (b6 (dY sc.ss l) t)) []:=by
   have:(NO (N + 1)).val [.va (.gs (aC sc)),.va (.c1 (.fz (l.map cL))),.va (.gs (aL t))]=iA .i64 (b6 (dY sc.ss l) t):=by simp -dsimp only [go_sem,yP]
   rw [this] at hK; exact hK
  clear h
  have hls:=hs.ok.ls
  have fin:∀ (b:Int) (R:Hp),b6 (dY sc.ss l) t=b->W.Fin 0 K (iS .i64 b) R:=fun b R h=>by
   rw [h] at hK
   exact .sel [] (by simp) (by simp) rfl (.done (by simp -dsimp only [go_sem]; simpa using hK))
  have hsf:=fK hs
  rw [aC] at hsf
  have hsd:=fV sc
  rw [aC] at hsd
  obtain ⟨k,s,n,e⟩:=t
  have hte:=ht.e
  have hte2:=ht.len
  simp only [Ty.e] at hte hte2
  have hin:ND (l.map cL):=⟨l,rfl⟩
  have hr1:((l.map cL).length=sc.ss.length)=True:=by simp [hl]
  have hr2:(∀ d:Int,d ∈ l->0<=d/\d<=1000000000000)=True:=eq_true hb
  simp (maxSteps:=1000000) -dsimp only [go_sem,aC,aL,aT,aE9,aBZ]
  cases c1:(k == 5 && decide (0 < (e.length:Int))) with
  | true=>
   simp only [Bool.and_eq_true,beq_iff_eq,decide_eq_true_eq] at c1
   obtain ⟨rfl,c1⟩:=c1
   obtain ⟨u,r,rfl⟩:∃ u r,e=u :: r:=by
    cases e with
    | nil=>simp at c1
    | cons u r=>exact ⟨u,r,rfl⟩
   rw [w5] at hlv
   have hux:(u :: r)[0]? = some u:=rfl
   have q1:=pF (row:=aL) hux
   have hu:eW (aL u):=dS (hte u List.mem_cons_self)
   have huh:u.h<=N:=by rw [Ty.h,Ty.hs] at hh; omega
   refine ⟨fun _=>?_,fun h=>by simp at h⟩
   have hul:((cH u).1<=1000000000)=True:=eq_true (by simp only at hlv; omega)
   have huh':(u.h<=N)=True:=eq_true huh
   have hfb:b6 (dY sc.ss l) u<=1001000000000/\0<=b6 (dY sc.ss l) u:=by
    have hd:dY sc.ss l (cH u).2.n<=1000000000000/\0<=dY sc.ss l (cH u).2.n:=by
     cases hf:fS sc.ss (cH u).2.n with
     | none=>rw [wC hf]; omega
     | some v=>
      obtain ⟨j,_,h2⟩:=w9 hl.symm hf
      have:=hb _ (bM h2); omega
    simp only at hlv
    unfold b6
    cases (cH u).2.k == 6<;>simp only [aI,aG]<;>omega
   simp (maxSteps:=1000000) -dsimp only [go_sem,gZ]
   refine ⟨by omega,fun x hx=>?_⟩
   subst hx
   simp only [hsd]
   exact ⟨⟨hsf,⟨hin,hl,hb⟩,hu,by simp only at hlv; omega,huh⟩,by omega,fin _ _ OY⟩
  | false=>
   have hst:=HV (s:=s) (n:=n) c1
   have hfd:b6 (dY sc.ss l) (.mk k s n e)=bif k == 6 then dY sc.ss l n else 0:=by unfold b6; rw [hst]; simp [Ty.k,Ty.n]
   refine ⟨fun h=>by simp at h,fun _=>?_⟩
   cases k6:k == 6 with
   | false=>
    rw [k6,aG] at hfd
    refine aN (α:=Nat) (fun i=>[(1,.va (.c1 (.fz (l.map cL)))),(3,.va (.c1 (.pt 0 0))),(5,.va (.c1 (.pt 1 0))),(7,iS .i64 i)]) (fun _=>[.cells (aC sc) 25,.cells (aL (.mk k s n e)) 28])
     (fun i=>i<=sc.ss.length) (fun i=>sc.ss.length - i) 0 2 (Nat.zero_le _) ?_ ?_ ?_
    · simp -dsimp only [go_sem]<;>simp
    · simp -dsimp only [go_sem,aC,aL,aT]<;>simp
    intro i hi
    rcases bC i sc.ss.length with hlt | hge
    · have hg:decide ((i:Int) < (sc.ss.length:Int))=true:=by simp; omega
      simp (maxSteps:=1000000) -dsimp only [go_sem,hg,aC,aL,aT,k6]
      and_intros
      all_goals first
       | omega
       | skip
      refine aE (i + 1) 2 (by omega) (by omega) ?_ ?_
      · simp -dsimp only [go_sem]<;>simp
      · simp -dsimp only [go_sem,aC,aL,aT]<;>simp
    · have hg:decide ((i:Int) < (sc.ss.length:Int))=false:=by simp; omega
      simp (maxSteps:=1000000) -dsimp only [go_sem,hg,aC,aL,aT]
      exact fin 0 _ hfd
   | true=>
    rw [k6,aI] at hfd
    refine aN (α:=Nat) (fun i=>[(1,.va (.c1 (.fz (l.map cL)))),(3,.va (.c1 (.pt 0 0))),(5,.va (.c1 (.pt 1 0))),(7,iS .i64 i)]) (fun _=>[.cells (aC sc) 25,.cells (aL (.mk k s n e)) 28])
     (fun i=>i<=sc.ss.length/\dY (sc.ss.drop i) (l.drop i) n=dY sc.ss l n) (fun i=>sc.ss.length - i) 0 2 ⟨Nat.zero_le _,rfl⟩ ?_ ?_ ?_
    · simp -dsimp only [go_sem]<;>simp
    · simp -dsimp only [go_sem,aC,aL,aT]<;>simp
    rintro i ⟨hi,ho⟩
    rcases bC i sc.ss.length with hlt | hge
    · have hg:decide ((i:Int) < (sc.ss.length:Int))=true:=by simp; omega
      obtain ⟨t,hx⟩:∃ e,sc.ss[i]? = some e:=⟨_,aU hlt⟩
      obtain ⟨d,hd⟩:∃ e,l[i]? = some e:=⟨_,aU (by omega)⟩
      have q2:=aV (row:=aP) hx
      have q3:=aV (row:=cL) hd
      rw [TH hx hd] at ho
      cases hc:decide (t.nm=n) with
      | true=>
       rw [hc,aI] at ho
       simp (maxSteps:=1000000) -dsimp only [go_sem,hg,↓q2,↓q3,aP,aC,aL,aT,eI,hc,k6]
       and_intros
       all_goals first
        | omega
        | exact fin _ _ (by rw [hfd,<-ho])
      | false=>
       rw [hc,aG] at ho
       simp (maxSteps:=1000000) -dsimp only [go_sem,hg,↓q2,aP,aC,aL,aT,eI,hc,k6]
       and_intros
       all_goals first
        | omega
        | skip
       refine aE (i + 1) 2 ⟨by omega,ho⟩ (by omega) ?_ ?_
       · simp -dsimp only [go_sem]<;>simp
       · simp -dsimp only [go_sem,aC,aL,aT]<;>simp
    · have hg:decide ((i:Int) < (sc.ss.length:Int))=false:=by simp; omega
      obtain rfl:i=sc.ss.length:=by omega
      rw [Z4] at ho
      simp (maxSteps:=1000000) -dsimp only [go_sem,hg,aC,aL,aT]
      exact fin 0 _ (by rw [hfd,<-ho])
def EL:List S->Prop:=fun av=>match av with
 | [.va (.gs r),.va (.c1 (.fz ds)),.va (.gs q)]=>kK r/\(ND ds/\ds.length=(C.sc r).ss.length/\∀ d ∈ ds.map C.it,0<=d/\d<=1000000000000)/\eW q/\(cH (C.ty q)).1<=1000000000
 | _=>False
theorem zR {av:List S} (h:EL av):∃ (s:Sc) (l:List Int) (t:Ty),av=[.va (.gs (aC s)),.va (.c1 (.fz (l.map cL))),.va (.gs (aL t))]/\s.fit/\(l.length=s.ss.length/\∀ d ∈ l,0<=d/\d<=1000000000000)/\TyOk t/\(cH t).1<=1000000000:=by
 unfold EL at h
 split at h
 · obtain ⟨⟨a,rfl,ha⟩,⟨⟨l,rfl⟩,h1,h2⟩,⟨b,rfl,hb⟩,h3⟩:=h
   rw [fG] at h3
   rw [fV] at h1
   rw [yP] at h2
   exact ⟨a,l,b,rfl,ha,⟨by simpa using h1,h2⟩,hb,h3⟩
 · exact h.elim
noncomputable def t0Fn:Fun:=⟨EL,NI,fun av h=>by obtain ⟨a,l,b,rfl,_⟩:=zR h; trivial⟩
attribute [go_sem] t0Fn EL
theorem NX:Meets Tryz.prog 89 t0Fn.sp:=eJ 0 uW fun av H K ⟨⟨h,e⟩,hK⟩=>by
 obtain ⟨a,l,b,rfl,ha,⟨h1,h2⟩,hb,h3⟩:=zR h
 refine ⟨b.h,⟨⟨⟨fK ha,⟨⟨l,rfl⟩,by rw [fV]; simpa using h1,by rw [yP]; exact h2⟩,dS hb,by rw [fG]; exact h3,by rw [fG]; exact Nat.le_refl _⟩,e⟩,hK⟩⟩
theorem EE {dp dq:ByteArray->Int} {l:List Fl} (h:∀ f ∈ l,b6 dp f.ty<=b6 dq f.ty):fN dp l<=fN dq l:=LN (jI _ _) fun f hf=>Int.le_trans (h f hf) (L4 hf)
structure DI (ss:List St) (r i:Nat) (d:List Int):Prop where
 len:d.length=ss.length
 lo:∀ (j:Nat) (t:St) (v:Int),ss[j]? = some t->d[j]? = some v->0<=v/\v<=dD ss t.nm/\(qQ ss t.nm < r->v=dD ss t.nm)/\(j < i->qQ ss t.nm < r + 1->v=dD ss t.nm)
theorem DI.ix {ss:List St} {es:List En} (_g:Gd ss es) {r i:Nat} {d:List Int} (h:DI ss r i d) (n:ByteArray):0<=dY ss d n/\dY ss d n<=dD ss n/\((fS ss n).isSome=true->qQ ss n < r->dY ss d n=dD ss n):=by
 cases hf:fS ss n with
 | none=>
  rw [wC hf]
  exact ⟨Int.le_refl _,FG ss n,fun h=>by simp at h⟩
 | some u=>
  obtain ⟨j,h1,h2⟩:=w9 h.len.symm hf
  obtain ⟨a1,a2,a3,_⟩:=h.lo j u _ h1 h2
  obtain ⟨_,rfl⟩:=gE hf
  exact ⟨a1,a2,fun _ h=>a3 h⟩
theorem DI.all {ss:List St} {es:List En} (g:Gd ss es) {r i:Nat} {d:List Int} (h:DI ss r i d):∀ v ∈ d,0<=v/\v<=1000000000000:=fun v hv=>by
 obtain ⟨j,hj⟩:=List.mem_iff_getElem?.1 hv
 have hl:=(a6.1 hj).1
 obtain ⟨t,ht⟩:∃ t,ss[j]? = some t:=⟨_,aU (by have:=h.len; omega)⟩
 obtain ⟨h1,h2,_⟩:=h.lo j t v ht hj
 have:=MK g t.nm
 omega
theorem DI.fd {ss:List St} {es:List En} (g:Gd ss es) {r i:Nat} {d:List Int} (h:DI ss r i d) (t:Ty):b6 (dY ss d) t<=b6 (dD ss) t:=by
 unfold b6
 have:=h.ix g (cH t).2.n
 cases (cH t).2.k == 6<;>simp only [aI,aG]<;>omega
theorem DI.set {ss:List St} {es:List En} (g:Gd ss es) (ha:vC ss) {r i:Nat} {d:List Int} (h:DI ss r i d) {t:St} (ht:ss[i]? = some t):DI ss r (i + 1) (d.set i (1 + fN (dY ss d) t.fs)):=by
 have htm:=bM ht
 have hD:=EZ g ha (g.nd t htm)
 have hle:fN (dY ss d) t.fs<=fN (dD ss) t.fs:=EE fun f _=>h.fd g f.ty
 have heq:qQ ss t.nm < r + 1->fN (dY ss d) t.fs=fN (dD ss) t.fs:=fun hr=>qM fun f hf=>by
  unfold b6
  cases hk:(cH f.ty).2.k == 6 with
  | false=>rfl
  | true=>
   obtain ⟨h1,u,h2⟩:=BV g (g.nd t htm) hf hk
   have h3:=BQ h1 h2 ha
   rw [(h.ix g _).2.2 (by rw [h2]; rfl) (by omega)]
 have hn:=jI (dY ss d) t.fs
 refine ⟨by rw [List.length_set]; exact h.len,fun j u v hu hv=>?_⟩
 rw [List.getElem?_set] at hv
 by_cases e:i=j
 · subst e
   rw [ht] at hu; obtain rfl:=bR hu
   have hlt:i < d.length:=by have:=h.len; have:=(a6.1 ht).1; omega
   simp [hlt] at hv
   subst hv
   exact ⟨by omega,by omega,fun hr=>by rw [heq (by omega)]; omega,fun _ hr=>by rw [heq hr]; omega⟩
 · rw [if_neg e] at hv
   obtain ⟨a1,a2,a3,a4⟩:=h.lo j u v hu hv
   exact ⟨a1,a2,a3,fun hj hr=>a4 (by omega) hr⟩
theorem DI.up {ss:List St} {r:Nat} {d:List Int} (h:DI ss r ss.length d):DI ss (r + 1) 0 d:=⟨h.len,fun j t v ht hv=>by
 obtain ⟨a1,a2,_,a4⟩:=h.lo j t v ht hv
 exact ⟨a1,a2,fun hr=>a4 (a6.1 ht).1 hr,fun h=>absurd h (Nat.not_lt_zero _)⟩⟩
theorem DI.fin {ss:List St} {d:List Int} (h:DI ss (ss.length + 1) 0 d):d=ss.map fun t=>dD ss t.nm:=by
 refine List.ext_getElem? fun j=>?_
 rw [List.getElem?_map]
 cases ht:ss[j]? with
 | none=>
  rw [List.getElem?_eq_none_iff] at ht
  rw [List.getElem?_eq_none (by rw [h.len]; exact ht)]; rfl
 | some t=>
  obtain ⟨v,hv⟩:∃ v,d[j]? = some v:=⟨_,aU (by rw [h.len]; exact (a6.1 ht).1)⟩
  obtain ⟨_,_,a3,_⟩:=h.lo j t v ht hv
  rw [hv,a3 (Nat.lt_succ_of_le (MI _ _))]; rfl
theorem DI.init (ss:List St):DI ss 0 0 (List.replicate ss.length 0):=⟨by simp,fun j t v ht hv=>by
 have:v=0:=by
  have:=bM hv
  exact (List.mem_replicate.1 this).2
 subst this
 exact ⟨Int.le_refl _,FG _ _,fun h=>absurd h (Nat.not_lt_zero _),fun h=>absurd h (Nat.not_lt_zero _)⟩⟩
def aGE:W.Spec:=fun av H K=>∃ s:Sc,av=[.va (.gs (aC s))]/\H=[]/\s.fit/\Gd s.ss s.es/\vC s.ss/\K (.va (.c1 (.fz ((s.ss.map fun t=>dD s.ss t.nm).map cL)))) []
theorem aGC {s:Sc} {K:S->Hp->Prop} (h:s.fit) (g:Gd s.ss s.es) (ha:vC s.ss) (hK:K (.va (.c1 (.fz ((s.ss.map fun t=>dD s.ss t.nm).map cL)))) []):aGE [.va (.gs (aC s))] [] K:=⟨s,rfl,rfl,h,g,ha,hK⟩
theorem ZT {D:ByteArray->Int} {l:List Fl} {i:Nat} {f:Fl} (hx:l[i]? = some f):(l.take (i + 1)).foldl (gF D) 0=max ((l.take i).foldl (gF D) 0) (b6 D f.ty):=by
 rw [fT hx,List.foldl_append]; rfl
theorem ZH:Meets Tryz.prog 51 aGE:=by
 refine aF Tryz.func51 aMA 1 (by rw [Tryz.ntmps51]; decide) (aJ NX (aA _)) (fun av H K h=>by obtain ⟨_,rfl,_⟩:=h; rfl) ?_
 rintro av H K ⟨s,rfl,rfl,hs,g,ha,hK⟩
 have hls:=g.n
 simp (maxSteps:=1000000) -dsimp only [go_sem,aC,aBW,aA8]
 refine ⟨⟨by omega,by omega,by omega⟩,fun h0=>?_,fun h0=>?_⟩
 · have hnil:s.ss=[]:=List.length_eq_zero_iff.1 (by omega)
   have hlen:s.ss.length=0:=by omega
   rw [hnil] at hK
   refine aN (α:=Nat) (fun i=>[(1,.va (.c1 (.pt 0 0))),(3,.va (.c1 (.fz []))),(4,iS .i64 i)]) (fun _=>[.cells (aC s) 25])
    (fun i=>i<=1) (fun i=>1 - i) 0 1 (Nat.zero_le _) ?_ ?_ ?_
   · simp -dsimp only [go_sem]<;>simp
   · simp -dsimp only [go_sem,aC]<;>simp
   intro i hi
   rcases Nat.eq_zero_or_pos i with h1 | h1
   · have hg:decide ((i:Int)<=(s.ss.length:Int))=true:=by simp; omega
     simp (maxSteps:=1000000) -dsimp only [go_sem,hg,aC]
     refine aN (α:=Unit) (fun _=>[(1,.va (.c1 (.pt 0 0))),(3,.va (.c1 (.fz []))),(4,iS .i64 i),(5,iS .i64 0)]) (fun _=>[.cells (aC s) 25])
      (fun _=>True) (fun _=>0) () 1 trivial ?_ ?_ ?_
     · simp -dsimp only [go_sem]<;>simp
     · simp -dsimp only [go_sem,aC]<;>simp
     intro _ _
     have hg:decide ((0:Int) < (s.ss.length:Int))=false:=by simp; omega
     simp (maxSteps:=1000000) -dsimp only [go_sem,hg,aC]
     refine ⟨by omega,aE (i + 1) 1 (by omega) (by omega) ?_ ?_⟩
     · simp -dsimp only [go_sem]<;>simp
     · simp -dsimp only [go_sem,aC]<;>simp
   · have hg:decide ((i:Int)<=(s.ss.length:Int))=false:=by simp; omega
     simp (maxSteps:=1000000) -dsimp only [go_sem,hg,aC]
     exact .sel [] (by simp) (by simp) rfl (.done (by simpa [go_sem] using hK))
 · have hsf:=fK hs
   rw [aC] at hsf
   have hsd:=fV s
   rw [aC] at hsd
   refine aN (α:=Nat × List Int) (fun z=>[(1,.va (.c1 (.pt 0 0))),(3,.va (.c1 (.sl 1 s.ss.length))),(4,iS .i64 z.1)]) (fun z=>[.cells (aC s) 25,.row (z.2.map cL) 3 1])
    (fun z=>z.1<=s.ss.length + 1/\DI s.ss z.1 0 z.2) (fun z=>s.ss.length + 1 - z.1) (0,List.replicate s.ss.length 0) 2 ⟨Nat.zero_le _,DI.init _⟩ ?_ ?_ ?_
   · simp -dsimp only [go_sem]<;>simp
   · simp -dsimp only [go_sem,aC]<;>simp
   rintro ⟨r,d⟩ ⟨hr,hd⟩
   simp only at hr hd ⊢
   rcases bC r (s.ss.length + 1) with hlt | hge
   · have hg:decide ((r:Int)<=(s.ss.length:Int))=true:=by simp; omega
     simp (maxSteps:=1000000) -dsimp only [go_sem,hg,aC]
     refine aN (α:=Nat × List Int) (fun z=>[(1,.va (.c1 (.pt 0 0))),(3,.va (.c1 (.sl 1 s.ss.length))),(4,iS .i64 r),(5,iS .i64 z.1)]) (fun z=>[.cells (aC s) 25,.row (z.2.map cL) 3 1])
      (fun z=>z.1<=s.ss.length/\DI s.ss r z.1 z.2) (fun z=>s.ss.length - z.1) (0,d) 2 ⟨Nat.zero_le _,hd⟩ ?_ ?_ ?_
     · simp -dsimp only [go_sem]<;>simp
     · simp -dsimp only [go_sem,aC]<;>simp
     clear hd hg
     rintro ⟨i,d⟩ ⟨hi,hd⟩
     simp only at hi hd ⊢
     rcases bC i s.ss.length with hit | hig
     · have hg:decide ((i:Int) < (s.ss.length:Int))=true:=by simp; omega
       obtain ⟨t,hx⟩:∃ e,s.ss[i]? = some e:=⟨_,aU hit⟩
       have htm:=bM hx
       obtain ⟨_,htl,hfs⟩:=hs.ok.ss t htm
       have q1:=aV (row:=aP) hx
       have hset:=hd.set g ha hx
       have hmx:fN (dY s.ss d) t.fs<=1000000000000:=by
        have h1:=EE (l:=t.fs) fun f _=>hd.fd g f.ty
        have h2:=EZ g ha (g.nd t htm)
        have h3:=MK g t.nm
        omega
       simp (maxSteps:=1000000) -dsimp only [go_sem,hg,aC]
       refine aN (α:=Nat) (fun k=>[(1,.va (.c1 (.pt 0 0))),(3,.va (.c1 (.sl 1 s.ss.length))),(4,iS .i64 r),(5,iS .i64 i),(6,iS .i64 ((t.fs.take k).foldl (gF (dY s.ss d)) 0)),(7,iS .i64 k)]) (fun _=>[.cells (aC s) 25,.row (d.map cL) 3 1])
        (fun k=>k<=t.fs.length) (fun k=>t.fs.length - k) 0 2 (Nat.zero_le _) ?_ ?_ ?_
       · simp -dsimp only [go_sem]<;>simp
       · simp -dsimp only [go_sem,aC]<;>simp
       intro k hk
       rcases bC k t.fs.length with hkt | hkg
       · have hg:decide ((k:Int) < (t.fs.length:Int))=true:=by simp; omega
         obtain ⟨f,hf⟩:∃ e,t.fs[k]? = some e:=⟨_,aU hkt⟩
         have hfm:=bM hf
         have q2:=aV (row:=aW) hf
         have hity:eW (aL f.ty):=dS (hfs f hfm).ty
         have hlv:((cH f.ty).1<=1000000000)=True:=eq_true (g.lv t htm f hfm)
         have hin:ND (d.map cL):=⟨d,rfl⟩
         have hdl:d.length=s.ss.length:=hd.len
         have hall:(∀ v:Int,v ∈ d->0<=v/\v<=1000000000000)=True:=eq_true (hd.all g)
         simp (maxSteps:=1000000) -dsimp only [go_sem,hg,↓q1,aP,aC]
         simp (maxSteps:=1000000) -dsimp only [go_sem,aW,uL,hsf,hsd,hity,hlv,hin,hall,hdl,hf,aH,forall_eq']
         refine ⟨by omega,by omega,by omega,by omega,aE (k + 1) 2 (by omega) (by omega) ?_ ?_⟩
         · simp -dsimp only [go_sem,ZT hf]<;>simp
         · simp -dsimp only [go_sem,aC]<;>simp
       · have hg:decide ((k:Int) < (t.fs.length:Int))=false:=by simp; omega
         obtain rfl:k=t.fs.length:=by omega
         have hmx2:t.fs.foldl (gF (dY s.ss d)) 0=fN (dY s.ss d) t.fs:=rfl
         rw [List.take_length,hmx2]
         have hn0:=jI (dY s.ss d) t.fs
         have hdl:d.length=s.ss.length:=hd.len
         obtain ⟨v0,hv0⟩:∃ e,d[i]? = some e:=⟨_,aU (by omega)⟩
         simp (maxSteps:=1000000) -dsimp only [go_sem,hg,↓q1,aP,aC]
         simp (maxSteps:=1000000) -dsimp only [go_sem,hv0,aH,forall_eq']
         refine ⟨by omega,by omega,⟨by omega,hdl⟩,⟨hdl,by omega⟩,by omega,aE (i + 1,d.set i (1 + fN (dY s.ss d) t.fs)) 2 ⟨by simp only; omega,hset⟩ (by simp only; omega) ?_ ?_⟩
         · simp -dsimp only [go_sem]<;>simp
         · simp -dsimp only [go_sem,aC]<;>simp [List.map_set]
     · have hg:decide ((i:Int) < (s.ss.length:Int))=false:=by simp; omega
       obtain rfl:i=s.ss.length:=by omega
       simp (maxSteps:=1000000) -dsimp only [go_sem,hg,aC]
       refine ⟨by omega,aE (r + 1,d) 2 ⟨by simp only; omega,hd.up⟩ (by simp only; omega) ?_ ?_⟩
       · simp -dsimp only [go_sem]<;>simp
       · simp -dsimp only [go_sem,aC]<;>simp
   · have hg:decide ((r:Int)<=(s.ss.length:Int))=false:=by simp; omega
     obtain rfl:r=s.ss.length + 1:=by omega
     have hfin:=hd.fin
     rw [<-hfin] at hK
     simp (maxSteps:=1000000) -dsimp only [go_sem,hg,aC]
     have e1:s.ss.length=(d.map cL).length:=by rw [List.length_map]; exact hd.len.symm
     rw [e1]
     refine .pub 1 _ _ _ rfl (.sel [] (by simp) (by simp [cP]) rfl (.done ?_))
     simp -dsimp only [go_sem,cP]
     simpa using hK
theorem aA4:Meets Tryz.prog 20 ckFn.sp:=by
 refine aF Tryz.func20 aOJ 1 (by rw [Tryz.ntmps20]; decide) (aJ aDZ (aJ ZY (aJ QA (aB aG8 (aJ SP (aB ZH (aA _))))))) o8 ?_
 rintro av H K ⟨⟨h,rfl⟩,hK⟩
 obtain ⟨_,rfl,s,rfl,hs⟩:=gL h
 have hK:K (iS .i64 (eG s)) []:=by
  have:ckFn.val [.va (.gs (aC s))]=iA .i64 (eG s):=by simp -dsimp only [go_sem]
  rw [this] at hK; exact hK
 clear h
 have hfit:=hs
 have hsc:qO (aC s):=K5 hs.ok
 have hsf:kK (aC s):=fK hs
 obtain ⟨⟨hv,hle,hls,hes,hss⟩,hlv,_,_⟩:=hs
 have fin:∀ (x:Int) (R:Hp),eG s=x->W.Fin 0 K (iS .i64 x) R:=fun x R h1=>by
  rw [h1] at hK
  exact .sel [] (by simp) (by simp) rfl (.done (by simpa [go_sem] using hK))
 have hsc':=hsc
 have hsf':=hsf
 simp only [aC] at hsc' hsf'
 have hdec:C.sc [.vl (.int .i64 s.ver),.fz (s.es.map bI),.fz (s.ss.map aP)]=s:=fV s
 simp (maxSteps:=1000000) -dsimp only [go_sem,aC,aEZ,aEP,hsc',hdec]
 refine ⟨fun h1=>fin 4 _ (by unfold eG; rw [h1]; rfl),fun c1=>⟨fun h1=>fin 3 _ (by unfold eG; rw [c1,h1]; rfl),fun c2=>?_⟩⟩
 have hF:eG s=bif I8 s != 0 then I8 s else bif EC s != 0 then EC s else tO s.ss:=by unfold eG; rw [c1,c2]; rfl
 refine aN (α:=Nat) (fun i=>[(1,.va (.c1 (.pt 0 0))),(3,iS .i64 i)]) (fun _=>[.cells (aC s) 25])
  (fun i=>i<=s.es.length/\fE (jF s) (s.es.length - i) i=I8 s) (fun i=>s.es.length - i) 0 1 ⟨Nat.zero_le _,rfl⟩ ?_ ?_ ?_
 · simp -dsimp only [go_sem]<;>simp
 · simp -dsimp only [go_sem,aC]<;>simp
 rintro i ⟨hi,ho⟩
 rcases bC i s.es.length with hlt | hge
 · have hg:decide ((i:Int) < (s.es.length:Int))=true:=by simp; omega
   have fin':∀ (x:Int) (R:Hp),jF s i=x->x ≠ 0->W.Fin 0 K (iS .i64 x) R:=fun x R h1 h2=>fin x R (by
    rw [hF,<-ho,sR hlt (by rw [h1]; exact h2),h1]; exact I3 h2)
   have cB:jF s i=0->fE (jF s) (s.es.length - (i + 1)) (i + 1)=I8 s:=fun h1=>by rw [<-ho,xE hlt h1]
   simp (maxSteps:=1000000) -dsimp only [go_sem,hg,aC,hsf',hdec,Int.toNat_natCast]
   refine ⟨⟨by omega,by omega⟩,fun h1=>fin' _ _ rfl (by simpa using h1),fun h1=>?_⟩
   refine ⟨by omega,aE (i + 1) 1 ⟨by omega,cB (by simpa using h1)⟩ (by omega) ?_ ?_⟩
   · simp -dsimp only [go_sem]<;>simp
   · simp -dsimp only [go_sem,aC]<;>simp
 · have hg:decide ((i:Int) < (s.es.length:Int))=false:=by simp; omega
   obtain rfl:i=s.es.length:=by omega
   rw [zG] at ho
   rw [LV ho.symm] at hF
   simp (maxSteps:=1000000) -dsimp only [go_sem,hg,aC]
   clear hi hge hg ho
   refine aN (α:=Nat) (fun i=>[(1,.va (.c1 (.pt 0 0))),(5,iS .i64 i)]) (fun _=>[.cells (aC s) 25])
    (fun i=>i<=s.ss.length/\fE (jU s) (s.ss.length - i) i=EC s) (fun i=>s.ss.length - i) 0 1 ⟨Nat.zero_le _,rfl⟩ ?_ ?_ ?_
   · simp -dsimp only [go_sem]<;>simp
   · simp -dsimp only [go_sem,aC]<;>simp
   rintro i ⟨hi,ho⟩
   rcases bC i s.ss.length with hlt | hge
   · have hg:decide ((i:Int) < (s.ss.length:Int))=true:=by simp; omega
     have fin':∀ (x:Int) (R:Hp),jU s i=x->x ≠ 0->W.Fin 0 K (iS .i64 x) R:=fun x R h1 h2=>fin x R (by
      rw [hF,<-ho,sR hlt (by rw [h1]; exact h2),h1]; exact I3 h2)
     have cB:jU s i=0->fE (jU s) (s.ss.length - (i + 1)) (i + 1)=EC s:=fun h1=>by rw [<-ho,xE hlt h1]
     simp (maxSteps:=1000000) -dsimp only [go_sem,hg,aC,hsf',hdec,Int.toNat_natCast]
     refine ⟨⟨by omega,by omega⟩,fun h1=>fin' _ _ rfl (by simpa using h1),fun h1=>?_⟩
     refine ⟨by omega,aE (i + 1) 1 ⟨by omega,cB (by simpa using h1)⟩ (by omega) ?_ ?_⟩
     · simp -dsimp only [go_sem]<;>simp
     · simp -dsimp only [go_sem,aC]<;>simp
   · have hg:decide ((i:Int) < (s.ss.length:Int))=false:=by simp; omega
     obtain rfl:i=s.ss.length:=by omega
     rw [zG] at ho
     rw [LV ho.symm] at hF
     have g:=K7 hfit c2 ho.symm
     simp (maxSteps:=1000000) -dsimp only [go_sem,hg,aC]
     clear hi hge hg ho
     refine aN (α:=Nat) (fun i=>[(1,.va (.c1 (.pt 0 0))),(7,iS .i64 i)]) (fun _=>[.cells (aC s) 25])
      (fun i=>i<=s.ss.length/\(s.ss.drop i).any (fun t=>cU (fR s.ss t.nm) t.nm)=s.ss.any (fun t=>cU (fR s.ss t.nm) t.nm)) (fun i=>s.ss.length - i) 0 1 ⟨Nat.zero_le _,rfl⟩ ?_ ?_ ?_
     · simp -dsimp only [go_sem]<;>simp
     · simp -dsimp only [go_sem,aC]<;>simp
     rintro i ⟨hi,ho⟩
     rcases bC i s.ss.length with hlt | hge
     · have hg:decide ((i:Int) < (s.ss.length:Int))=true:=by simp; omega
       obtain ⟨t,hx⟩:∃ t,s.ss[i]? = some t:=⟨_,aU hlt⟩
       have q1:=aV (row:=aP) hx
       rw [gQ hx] at ho
       have hv:=g.vlen t.nm
       have hul:=D1 s.ss t.nm
       have hbs:B5 ((fR s.ss t.nm).map bL):=tY (by rw [D1]; omega)
       have e0:(0<=((fR s.ss t.nm).length:Int))=True:=by simp
       have e1:(((fR s.ss t.nm).length:Int)<=9223372036854775807)=True:=by rw [hul]; exact eq_true (by omega)
       have hto:(fR s.ss t.nm).take (fR s.ss t.nm).length=fR s.ss t.nm:=List.take_length
       simp (maxSteps:=1000000) -dsimp only [go_sem,hg,↓q1,aP,aC]
       refine ⟨by omega,aE2 hfit g ?_⟩
       simp (maxSteps:=1000000) -dsimp only [go_sem,hbs,e0,e1,Int.toNat_natCast,hto]
       refine ⟨by omega,fun hc=>?_,fun hc=>?_⟩
       · rw [hc,Bool.true_or] at ho
         exact fin 19 _ (by rw [hF]; unfold tO; rw [<-ho]; rfl)
       · rw [hc,Bool.false_or] at ho
         refine ⟨by omega,aE (i + 1) 1 ⟨by omega,ho⟩ (by omega) ?_ ?_⟩
         · simp -dsimp only [go_sem]<;>simp
         · simp -dsimp only [go_sem,aC]<;>simp
     · have hg:decide ((i:Int) < (s.ss.length:Int))=false:=by simp; omega
       obtain rfl:i=s.ss.length:=by omega
       rw [pE] at ho
       have ha:vC s.ss:=fun t ht=>e7 ho.symm t ht
       have hF2:eG s=bif s.ss.any (fun t=>decide (6 < dD s.ss t.nm)) then 9 else 0:=by rw [hF]; unfold tO; rw [<-ho]; rfl
       simp (maxSteps:=1000000) -dsimp only [go_sem,hg,aC]
       refine aGC hfit g ha ?_
       simp (maxSteps:=1000000) -dsimp only [go_sem]
       clear hi hge hg ho
       refine aN (α:=Nat) (fun i=>[(9,.va (.c1 (.fz ((s.ss.map fun t=>dD s.ss t.nm).map cL)))),(10,iS .i64 i)]) (fun _=>[.cells (aC s) 25])
        (fun i=>i<=s.ss.length/\(s.ss.drop i).any (fun t=>decide (6 < dD s.ss t.nm))=s.ss.any (fun t=>decide (6 < dD s.ss t.nm))) (fun i=>s.ss.length - i) 0 1 ⟨Nat.zero_le _,rfl⟩ ?_ ?_ ?_
       · simp -dsimp only [go_sem]<;>simp
       · simp -dsimp only [go_sem,aC]<;>simp
       rintro i ⟨hi,ho⟩
       rcases bC i s.ss.length with hlt | hge
       · have hg:decide ((i:Int) < (s.ss.length:Int))=true:=by simp; omega
         obtain ⟨t,hx⟩:∃ t,s.ss[i]? = some t:=⟨_,aU hlt⟩
         have hd:(s.ss.map fun t=>dD s.ss t.nm)[i]? = some (dD s.ss t.nm):=by rw [List.getElem?_map,hx]; rfl
         have q1:=aV (row:=cL) hd
         have hml:(s.ss.map fun t=>dD s.ss t.nm).length=s.ss.length:=by simp
         rw [gQ hx] at ho
         generalize (s.ss.map fun t=>dD s.ss t.nm)=ds at *
         simp (maxSteps:=1000000) -dsimp only [go_sem,hml,hg,↓q1,aC]
         refine ⟨by omega,fun hc=>?_,fun hc=>?_⟩
         · rw [hc,Bool.true_or] at ho
           exact fin 9 _ (by rw [hF2,<-ho]; rfl)
         · rw [hc,Bool.false_or] at ho
           refine ⟨by omega,aE (i + 1) 1 ⟨by omega,ho⟩ (by omega) ?_ ?_⟩
           · simp -dsimp only [go_sem]<;>simp
           · simp -dsimp only [go_sem,aC]<;>simp
       · have hg:decide ((i:Int) < (s.ss.length:Int))=false:=by simp; omega
         obtain rfl:i=s.ss.length:=by omega
         rw [pE] at ho
         have hml:(s.ss.map fun t=>dD s.ss t.nm).length=s.ss.length:=by simp
         generalize (s.ss.map fun t=>dD s.ss t.nm)=ds at *
         simp (maxSteps:=1000000) -dsimp only [go_sem,hml,hg,aC]
         exact fin 0 _ (by rw [hF2,<-ho]; rfl)
def f0:Nat->Ty->Nat
 | 0,_=>0
 | N + 1,t=>t.e.foldl (fun m u=>max m (1 + f0 N u)) 0
abbrev lF (N:Nat):Nat->Ty->Nat:=fun m u=>max m (1 + f0 N u)
theorem VB (N:Nat):∀ (l:List Ty) (m:Nat),m<=l.foldl (lF N) m
 | [],_=>Nat.le_refl _
 | u :: l,m=>Nat.le_trans (Nat.le_max_left _ _) (VB N l (max m (1 + f0 N u)))
theorem aD5 {N:Nat} {l:List Ty} {u:Ty} (h:u ∈ l):∀ m,1 + f0 N u<=l.foldl (lF N) m:=by
 induction l with
 | nil=>cases h
 | cons v l ih=>
  intro m
  rcases List.mem_cons.1 h with rfl | h
  · exact Nat.le_trans (Nat.le_max_right m _) (VB N l _)
  · exact ih h _
theorem aHB {N B:Nat} {l:List Ty} (h:∀ u ∈ l,1 + f0 N u<=B):∀ m,m<=B->l.foldl (lF N) m<=B:=by
 induction l with
 | nil=>exact fun _ h=>h
 | cons v l ih=>exact fun m hm=>ih (fun u hu=>h u (List.mem_cons_of_mem _ hu)) _ (Nat.max_le.2 ⟨hm,h v List.mem_cons_self⟩)
theorem AY:∀ (N:Nat) (t:Ty),f0 N t<=N
 | 0,_=>Nat.le_refl _
 | N + 1,t=>aHB (fun u _=>by have:=AY N u; omega) 0 (Nat.zero_le _)
theorem NW:∀ (N:Nat) (t:Ty),f0 N t < N->t.h<=f0 N t + 1
 | 0,_,h=>absurd h (Nat.not_lt_zero _)
 | N + 1,.mk k s n e,h=>by
  have hu:∀ u ∈ e,u.h<=f0 (N + 1) (.mk k s n e):=fun u hu=>by
   have h1:1 + f0 N u<=f0 (N + 1) (.mk k s n e):=aD5 (N:=N) (l:=e) hu 0
   have:=NW N u (by omega)
   omega
  rw [Ty.h]
  have:∀ (l:List Ty),(∀ u ∈ l,u.h<=f0 (N + 1) (.mk k s n e))->Ty.hs l<=f0 (N + 1) (.mk k s n e):=by
   intro l
   induction l with
   | nil=>exact fun _=>Nat.zero_le _
   | cons v l ih=>
    intro h
    rw [Ty.hs]
    exact Nat.max_le.2 ⟨h v List.mem_cons_self,ih fun u hu=>h u (List.mem_cons_of_mem _ hu)⟩
  have:=this e hu
  omega
theorem ZU {N:Nat} {l:List Ty} {i:Nat} {u:Ty} (hx:l[i]? = some u):(l.take (i + 1)).foldl (lF N) 0=max ((l.take i).foldl (lF N) 0) (1 + f0 N u):=by
 rw [fT hx,List.foldl_append]; rfl
def ER (N:Nat):List S->Prop:=fun av=>match av with
 | [.va (.gs q),.va (.c1 (.vl (.int .i64 k)))]=>eW q/\k=(N:Int)/\N<=1000
 | _=>False
theorem mI {N:Nat} {av:List S} (h:ER N av):∃ t:Ty,av=[.va (.gs (aL t)),iS .i64 N]/\TyOk t/\N<=1000:=by
 unfold ER at h
 split at h
 · obtain ⟨⟨t,rfl,ht⟩,rfl,h⟩:=h
   exact ⟨t,rfl,ht,h⟩
 · exact h.elim
noncomputable def W0 (N:Nat):List S->A:=fun av=>match av with
 | [.va (.gs q),.va (.c1 (.vl (.int .i64 _)))]=>iA .i64 (f0 N (C.ty q))
 | _=>.gs []
noncomputable def CF (N:Nat):Fun:=⟨ER N,W0 N,fun av h=>by obtain ⟨a,rfl,_⟩:=mI h; trivial⟩
theorem G3 {N:Nat}:∀ av H K,(CF N).sp av H K->av.length=2:=fun av H K h=>by obtain ⟨a,rfl,_⟩:=mI h.1.1; rfl
attribute [go_sem] CF ER W0
theorem ZJ:Meets Tryz.prog 45 (CF 0).sp:=by
 refine aF Tryz.func45 aBA 2 (by rw [Tryz.ntmps45]; decide) (aA _) G3 ?_
 rintro av H K ⟨⟨h,rfl⟩,hK⟩
 obtain ⟨t,rfl,ht,hN⟩:=mI h
 have hK:K (iS .i64 0) []:=by
  have:(CF 0).val [.va (.gs (aL t)),iS .i64 ((0:Nat):Int)]=iA .i64 0:=by simp -dsimp only [go_sem]; rfl
  rw [this] at hK; exact hK
 clear h
 obtain ⟨k,s,n,e⟩:=t
 simp (maxSteps:=1000000) -dsimp only [go_sem,aL,aT,UL,TE]
 refine aN (α:=Unit) (fun i=>[(1,iS .i64 0),(2,.va (.c1 (.pt 0 0))),(5,iS .i64 0),(6,iS .i64 0)]) (fun _=>[.cells (aL (.mk k s n e)) 28])
  (fun i=>True) (fun i=>0) () 1 trivial ?_ ?_ ?_
 · simp -dsimp only [go_sem]
   simp
 · simp -dsimp only [go_sem,aL,aT]
 intro _ _
 have hg2:decide ((0:Int) < 0)=false:=rfl
 cases hg:decide ((0:Int) < (e.length:Int)) with
 | true=>
  simp (maxSteps:=1000000) -dsimp only [go_sem,hg,hg2,aL,aT]
  exact .sel [] (by simp) (by simp) rfl (.done (by simp -dsimp only [go_sem]; exact hK))
 | false=>
  simp (maxSteps:=1000000) -dsimp only [go_sem,hg,hg2,aL,aT]
  exact .sel [] (by simp) (by simp) rfl (.done (by simp -dsimp only [go_sem]; exact hK))
theorem PX:∀ N,Meets Tryz.prog 45 (CF N).sp
 | 0=>ZJ
 | N + 1=>by
  refine aF Tryz.func45 aBA 2 (by rw [Tryz.ntmps45]; decide) (aJ (PX N) (aA _)) G3 ?_
  rintro av H K ⟨⟨h,rfl⟩,hK⟩
  obtain ⟨t,rfl,ht,hN⟩:=mI h
  have hK:K (iS .i64 (f0 (N + 1) t)) []:=by
   have:(CF (N + 1)).val [.va (.gs (aL t)),iS .i64 ((N + 1:Nat):Int)]=iA .i64 (f0 (N + 1) t):=by simp -dsimp only [go_sem]
   rw [this] at hK; exact hK
  clear h
  obtain ⟨k,s,n,e⟩:=t
  have hte:=ht.e
  have hte2:=ht.len
  simp only [Ty.e] at hte hte2
  have hK:K (iS .i64 ((e.foldl (lF N) 0:Nat):Int)) []:=hK
  simp (maxSteps:=1000000) -dsimp only [go_sem,aL,aT,UL,TE]
  refine aN (α:=Nat) (fun i=>[(1,iS .i64 ((N + 1:Nat):Int)),(2,.va (.c1 (.pt 0 0))),(5,iS .i64 (((e.take i).foldl (lF N) 0:Nat):Int)),(6,iS .i64 i)]) (fun _=>[.cells (aL (.mk k s n e)) 28])
   (fun i=>i<=e.length) (fun i=>e.length - i) 0 1 (Nat.zero_le _) ?_ ?_ ?_
  · simp -dsimp only [go_sem]
    simp
  · simp -dsimp only [go_sem,aL,aT]
  intro i hi
  rcases bC i e.length with hlt | hge
  · have hg:decide ((i:Int) < (e.length:Int))=true:=by simp; omega
    have hg2:decide (0 < ((N + 1:Nat):Int))=true:=decide_eq_true (by omega)
    obtain ⟨u,hx⟩:∃ t,e[i]? = some t:=⟨_,aU hlt⟩
    have q1:=aV (row:=aL) hx
    have hu:eW (aL u):=dS (hte u (bM hx))
    have hn1:((N + 1:Nat):Int) - 1=(N:Int):=by omega
    have hl:=AY N u
    simp (maxSteps:=1000000) -dsimp only [go_sem,hg,hg2,↓q1,aL,aT,gZ,hu,hn1]
    refine ⟨by omega,by omega,by omega,by omega,by omega,aE (i + 1) 1 (by omega) (by omega) ?_ ?_⟩
    · simp -dsimp only [go_sem,ZU hx]<;>simp<;>omega
    · simp -dsimp only [go_sem,aL,aT]
  · have hg:decide ((i:Int) < (e.length:Int))=false:=by simp; omega
    obtain rfl:i=e.length:=by omega
    rw [List.take_length]
    simp (maxSteps:=1000000) -dsimp only [go_sem,hg,aL,aT]
    exact .sel [] (by simp) (by simp) rfl (.done (by simp -dsimp only [go_sem]; exact hK))
mutual
def fewT:Ty->Bool
 | .mk k s n e=>bif decide (40 < (bl n).length) || decide (3 < e.length) || decide (8 < f0 20 (.mk k s n e)) then false else EX e
def EX:List Ty->Bool
 | []=>true
 | t :: r=>fewT t && EX r
end
theorem r9:∀ l:List Ty,EX l=l.all fewT
 | []=>rfl
 | t :: r=>by rw [EX,r9 r]; rfl
theorem MZ {k s:Int} {n:ByteArray} {e:List Ty} (h:fewT (.mk k s n e)=true):((bl n).length<=40/\e.length<=3/\f0 20 (.mk k s n e)<=8)/\∀ u ∈ e,fewT u=true:=by
 rw [fewT] at h
 cases c:decide (40 < (bl n).length) || decide (3 < e.length) || decide (8 < f0 20 (.mk k s n e)) with
 | true=>rw [c] at h; cases h
 | false=>
  rw [c] at h
  simp only [Bool.or_eq_false_iff,decide_eq_false_iff_not] at c
  refine ⟨by omega,fun u hu=>?_⟩
  simp only [aG,r9,List.all_eq_true] at h
  exact h u hu
theorem aI8 {t:Ty} (h:fewT t=true):t.h<=9:=by
 obtain ⟨k,s,n,e⟩:=t
 have h1:=(MZ h).1.2.2
 have:=NW 20 (.mk k s n e) (by omega)
 omega
theorem PI:∀ (N:Nat) (t:Ty),t.h<=N->fewT t=true->TySm t
 | 0,t,h,_=>absurd h (by have:=t.h_pos; omega)
 | N + 1,.mk k s n e,h,hf=>by
  obtain ⟨⟨_,h2,_⟩,h3⟩:=MZ hf
  refine .mk (by omega) fun u hu=>PI N u ?_ (h3 u hu)
  have:=Ty.hs_mem hu; rw [Ty.h] at h; omega
theorem aE6:∀ (N:Nat) (t:Ty),t.h<=N->(cH t).1<=t.h
 | 0,t,h=>absurd h (by have:=t.h_pos; omega)
 | N + 1,.mk k s n e,h=>by
  cases c:(k == 5 && decide (0 < (e.length:Int))) with
  | false=>rw [HV c]; exact Nat.zero_le _
  | true=>
   simp only [Bool.and_eq_true,beq_iff_eq,decide_eq_true_eq] at c
   obtain ⟨rfl,c⟩:=c
   cases e with
   | nil=>simp at c
   | cons u r=>
    rw [w5]
    have h2:=aE6 N u (by rw [Ty.h,Ty.hs] at h; omega)
    rw [Ty.h,Ty.hs]; simp only; omega
def FF (N:Nat):List S->Prop:=fun av=>match av with
 | [.va (.gs q)]=>eW q/\(C.ty q).h<=N
 | _=>False
theorem mJ {N:Nat} {av:List S} (h:FF N av):∃ t:Ty,av=[.va (.gs (aL t))]/\TyOk t/\t.h<=N:=by
 unfold FF at h
 split at h
 · obtain ⟨⟨t,rfl,ht⟩,h⟩:=h
   rw [fG] at h
   exact ⟨t,rfl,ht,h⟩
 · exact h.elim
noncomputable def WP:List S->A:=fun av=>match av with
 | [.va (.gs q)]=>bA (fewT (C.ty q))
 | _=>.gs []
noncomputable def NP (N:Nat):Fun:=⟨FF N,WP,fun av h=>by obtain ⟨a,rfl,_⟩:=mJ h; trivial⟩
theorem UT {N:Nat}:∀ av H K,(NP N).sp av H K->av.length=1:=fun av H K h=>by obtain ⟨a,rfl,_⟩:=mJ h.1.1; rfl
attribute [go_sem] NP FF WP
theorem CV:∀ N,Meets Tryz.prog 19 (NP N).sp
 | 0=>⟨by kernel_rfl,by rintro xs vs E ro w K _ _ _ ⟨⟨h,_⟩,_⟩; obtain ⟨a,_,_,h⟩:=mJ h; have:=a.h_pos; omega⟩
 | N + 1=>by
  refine aF Tryz.func19 aKJ 1 (by rw [Tryz.ntmps19]; decide) (aJ (PX 20) (aJ (CV N) (aA _))) UT ?_
  rintro av H K ⟨⟨h,rfl⟩,hK⟩
  obtain ⟨t,rfl,ht,hN⟩:=mJ h
  have hK:K (bS (fewT t)) []:=by
   have:(NP (N + 1)).val [.va (.gs (aL t))]=bA (fewT t):=by simp -dsimp only [go_sem]
   rw [this] at hK; exact hK
  clear h
  have hit:=dS ht
  obtain ⟨k,s,n,e⟩:=t
  have hte:=ht.e
  have hte2:=ht.len
  simp only [Ty.e] at hte hte2
  have fin:∀ (x:Bool) (R:Hp),fewT (.mk k s n e)=x->W.Fin 0 K (bS x) R:=fun x R h1=>by
   rw [h1] at hK
   exact .sel [] (by simp) (by simp) rfl (.done (by simpa [go_sem] using hK))
  have hcd:=fG (.mk k s n e)
  have hF:=fewT.eq_1 k s n e
  rw [aL,aT] at hit hcd
  generalize hlv:f0 20 (.mk k s n e)=lv at hF
  have hl20:=AY 20 (.mk k s n e)
  rw [hlv] at hl20
  have e20:((20:Nat):Int)=20:=rfl
  have hb20:(20<=1000)=True:=by simp
  simp (maxSteps:=1000000) -dsimp only [go_sem,aL,aT,aBM,aE5,hit,hcd,hlv,e20,hb20]
  refine ⟨fun h1=>fin false _ ?_,fun h1=>?_⟩
  · rw [hF]
    simp only [Bool.or_eq_true,decide_eq_true_eq] at h1
    rw [show (decide (40 < (bl n).length) || decide (3 < e.length) || decide (8 < lv))=true by simp only [Bool.or_eq_true,decide_eq_true_eq]; omega]; rfl
  have hF2:fewT (.mk k s n e)=e.all fewT:=by
   simp only [Bool.or_eq_false_iff,decide_eq_false_iff_not] at h1
   rw [hF,show (decide (40 < (bl n).length) || decide (3 < e.length) || decide (8 < lv))=false by simp only [Bool.or_eq_false_iff,decide_eq_false_iff_not]; omega,r9]; rfl
  refine aN (α:=Nat) (fun i=>[(1,.va (.c1 (.pt 0 0))),(3,iS .i64 i)]) (fun i=>[.cells (aL (.mk k s n e)) 28])
   (fun i=>i<=e.length/\∀ u ∈ e.take i,fewT u=true) (fun i=>e.length - i) 0 1 ⟨Nat.zero_le _,fun u hu=>by cases hu⟩ ?_ ?_ ?_
  · simp -dsimp only [go_sem]<;>simp
  · simp -dsimp only [go_sem,aL,aT]
  rintro i ⟨hi,ho⟩
  rcases bC i e.length with hlt | hge
  · have hg:decide ((i:Int) < (e.length:Int))=true:=by simp; omega
    obtain ⟨u,hx⟩:∃ t,e[i]? = some t:=⟨_,aU hlt⟩
    have hum:=bM hx
    have q1:=aV (row:=aL) hx
    have hu:eW (aL u):=dS (hte u hum)
    have huh:(u.h<=N)=True:=eq_true (by have:=Ty.hs_mem hum; rw [Ty.h] at hN; omega)
    simp (maxSteps:=1000000) -dsimp only [go_sem,hg,↓q1,aL,aT,gZ,hu,huh]
    refine ⟨by omega,fun h1=>fin false _ ?_,fun h1=>?_⟩
    · rw [hF2,List.all_eq_false]; exact ⟨u,hum,by simpa using h1⟩
    · refine ⟨by omega,aE (i + 1) 1 ⟨by omega,fun v hv=>?_⟩ (by omega) ?_ ?_⟩
      · rw [fT hx] at hv
        rcases List.mem_append.1 hv with h | h
        · exact ho v h
        · obtain rfl:v=u:=by simpa using h
          simpa using h1
      · simp -dsimp only [go_sem]<;>simp
      · simp -dsimp only [go_sem,aL,aT]
  · have hg:decide ((i:Int) < (e.length:Int))=false:=by simp; omega
    obtain rfl:i=e.length:=by omega
    rw [List.take_length] at ho
    simp (maxSteps:=1000000) -dsimp only [go_sem,hg,aL,aT]
    exact fin true _ (by rw [hF2,List.all_eq_true]; exact ho)
noncomputable def f0Fn:Fun:=rT eW C.ty fun t=>.bool (fewT t)
attribute [go_sem] f0Fn
theorem FL:Meets Tryz.prog 19 f0Fn.sp:=eJ 0 CV fun av H K ⟨⟨h,e⟩,hK⟩=>by
 obtain ⟨_,rfl,t,rfl,ht⟩:=gL h
 exact ⟨t.h,⟨⟨⟨dS ht,by rw [fG]; exact Nat.le_refl _⟩,e⟩,hK⟩⟩
def tB (e:En):Bool:=!(decide (40 < (bl e.nm).length) || decide (18 < e.ns.length) || decide (18 < e.vs.length)) && e.ns.all fun n=>!(decide (40 < (bl n).length))
def p7 (f:Fl):Bool:=!(decide (40 < (bl f.nm).length) || !(fewT f.ty))
def n8 (t:St):Bool:=!(decide (40 < (bl t.nm).length) || decide (18 < t.fs.length)) && t.fs.all p7
def kV (s:Sc):Bool:=!(decide (18 < s.es.length) || decide (18 < s.ss.length)) && (s.es.all tB && s.ss.all n8)
theorem BG {s:Sc} (h:s.ok) (hf:kV s=true):s.fit:=by
 unfold kV at hf
 simp only [Bool.and_eq_true,List.all_eq_true,Bool.not_eq_true',Bool.or_eq_false_iff,decide_eq_false_iff_not] at hf
 obtain ⟨_,he,hs⟩:=hf
 have hfl:∀ t ∈ s.ss,t.fs.length<=18/\∀ f ∈ t.fs,fewT f.ty=true:=fun t ht=>by
  have:=hs t ht
  unfold n8 at this
  simp only [Bool.and_eq_true,List.all_eq_true,Bool.not_eq_true',Bool.or_eq_false_iff,decide_eq_false_iff_not] at this
  refine ⟨by omega,fun f hf=>?_⟩
  have:=this.2 f hf
  unfold p7 at this
  simp only [Bool.not_eq_true',Bool.or_eq_false_iff,Bool.not_eq_false'] at this
  exact this.2
 refine ⟨h,fun t ht f hf=>?_,fun t ht=>⟨by have:=(hfl t ht).1; omega,fun f hf=>PI _ _ (Nat.le_refl _) ((hfl t ht).2 f hf)⟩,fun e hm=>?_⟩
 · have h1:=aI8 ((hfl t ht).2 f hf)
   have h2:=aE6 _ f.ty (Nat.le_refl _)
   omega
 · have:=he e hm
   unfold tB at this
   simp only [Bool.and_eq_true,List.all_eq_true,Bool.not_eq_true',Bool.or_eq_false_iff,decide_eq_false_iff_not] at this
   omega
theorem nL {α:Type} {l:List α} {i:Nat} {x:α} (hx:l[i]? = some x) (p:α->Bool):(l.drop i).all p=(p x && (l.drop (i + 1)).all p):=by
 obtain ⟨h,rfl⟩:=a6.1 hx
 rw [List.drop_eq_getElem_cons h,List.all_cons]
theorem o5 {α:Type} {l:List α} (p:α->Bool):(l.drop l.length).all p=true:=by rw [List.drop_length]; rfl
theorem aN1:Meets Tryz.prog 18 (rT qO C.sc fun s=>.bool (kV s)).sp:=by
 refine aF Tryz.func18 aNZ 1 (by rw [Tryz.ntmps18]; decide) (aJ FL (aA _)) o8 ?_
 rintro av H K ⟨⟨h,rfl⟩,hK⟩
 obtain ⟨_,rfl,s,rfl,hs⟩:=gL h
 have hK:K (bS (kV s)) []:=by
  have:(rT qO C.sc fun s=>.bool (kV s)).val [.va (.gs (aC s))]=bA (kV s):=by simp -dsimp only [go_sem]
  rw [this] at hK; exact hK
 clear h
 obtain ⟨hv,hle,hls,hes,hss⟩:=hs
 have fin:∀ (x:Bool) (R:Hp),kV s=x->W.Fin 0 K (bS x) R:=fun x R h1=>by
  rw [h1] at hK
  exact .sel [] (by simp) (by simp) rfl (.done (by simpa [go_sem] using hK))
 simp (maxSteps:=1000000) -dsimp only [go_sem,aC,aE8,aBD]
 refine ⟨fun h1=>fin false _ ?_,fun h1=>?_⟩
 · unfold kV
   rw [show (decide (18 < s.es.length) || decide (18 < s.ss.length))=true by simp only [Bool.or_eq_true,decide_eq_true_eq] at h1 ⊢; omega]; rfl
 have hF:kV s=(s.es.all tB && s.ss.all n8):=by
  unfold kV
  rw [show (decide (18 < s.es.length) || decide (18 < s.ss.length))=false by simp only [Bool.or_eq_false_iff,decide_eq_false_iff_not] at h1 ⊢; omega]; rfl
 refine aN (α:=Nat) (fun i=>[(1,.va (.c1 (.pt 0 0))),(3,iS .i64 i)]) (fun _=>[.cells (aC s) 25])
  (fun i=>i<=s.es.length/\(s.es.drop i).all tB=s.es.all tB) (fun i=>s.es.length - i) 0 1 ⟨Nat.zero_le _,rfl⟩ ?_ ?_ ?_
 · simp -dsimp only [go_sem]<;>simp
 · simp -dsimp only [go_sem,aC]<;>simp
 rintro i ⟨hi,ho⟩
 rcases bC i s.es.length with hlt | hge
 · have hg:decide ((i:Int) < (s.es.length:Int))=true:=by simp; omega
   obtain ⟨e,hx⟩:∃ e,s.es[i]? = some e:=⟨_,aU hlt⟩
   have hem:=bM hx
   have q1:=aV (row:=bI) hx
   obtain ⟨_,hln,hlv,_,_⟩:=hes e hem
   rw [nL hx] at ho
   have bad:tB e=false->∀ R,W.Fin 0 K (bS false) R:=fun h R=>fin false R (by rw [hF,<-ho,h]; rfl)
   have cst:∀ (a b:Nat),decide ((a:Int) < (b:Int))=decide (a < b):=fun a b=>by simp
   have hE:tB e=(!(decide (40 < ((bl e.nm).length:Int)) || decide (18 < (e.ns.length:Int)) || decide (18 < (e.vs.length:Int))) && e.ns.all fun n=>!(decide (40 < ((bl n).length:Int)))):=by
    unfold tB
    have c40:∀ b:Nat,decide (40 < (b:Int))=decide (40 < b):=fun b=>by simp; omega
    have c18:∀ b:Nat,decide (18 < (b:Int))=decide (18 < b):=fun b=>by simp; omega
    simp only [c40,c18]
   cases d1:decide (40 < ((bl e.nm).length:Int)) with
   | true=>
    rw [d1] at hE
    simp (maxSteps:=1000000) -dsimp only [go_sem,hg,↓q1,bI,aC,d1]
    exact ⟨by omega,bad hE _⟩
   | false=>
   cases d2:decide (18 < (e.ns.length:Int)) with
   | true=>
    rw [d1,d2] at hE
    simp (maxSteps:=1000000) -dsimp only [go_sem,hg,↓q1,bI,aC,d1,d2]
    exact ⟨by omega,by omega,bad hE _⟩
   | false=>
   cases d3:decide (18 < (e.vs.length:Int)) with
   | true=>
    rw [d1,d2,d3] at hE
    simp (maxSteps:=1000000) -dsimp only [go_sem,hg,↓q1,bI,aC,d1,d2,d3]
    exact ⟨by omega,by omega,by omega,bad hE _⟩
   | false=>
    rw [d1,d2,d3] at hE
    simp only [Bool.or_self,Bool.not_false,Bool.true_and] at hE
    simp (maxSteps:=1000000) -dsimp only [go_sem,hg,↓q1,bI,aC,d1,d2,d3]
    refine ⟨by omega,by omega,by omega,?_⟩
    refine aN (α:=Nat) (fun k=>[(1,.va (.c1 (.pt 0 0))),(3,iS .i64 i),(4,iS .i64 k)]) (fun _=>[.cells (aC s) 25])
     (fun k=>k<=e.ns.length/\((e.ns.drop k).all fun n=>!(decide (40 < ((bl n).length:Int))))=e.ns.all fun n=>!(decide (40 < ((bl n).length:Int)))) (fun k=>e.ns.length - k) 0 1 ⟨Nat.zero_le _,rfl⟩ ?_ ?_ ?_
    · simp -dsimp only [go_sem]<;>simp
    · simp -dsimp only [go_sem,aC]<;>simp
    rintro k ⟨hk,ho2⟩
    rcases bC k e.ns.length with hkt | hkg
    · have hgk:decide ((k:Int) < (e.ns.length:Int))=true:=by simp; omega
      obtain ⟨n,hn⟩:∃ n,e.ns[k]? = some n:=⟨_,aU hkt⟩
      have q2:=aV (row:=bL) hn
      rw [nL hn] at ho2
      simp (maxSteps:=1000000) -dsimp only [go_sem,↓q1,bI,aC,hgk]
      simp (maxSteps:=1000000) -dsimp only [go_sem,hn,aH,forall_eq']
      refine ⟨by omega,by omega,by omega,fun h2=>bad (by rw [hE,<-ho2,h2]; rfl) _,fun h2=>?_⟩
      rw [h2] at ho2
      refine ⟨by omega,aE (k + 1) 1 ⟨by omega,by simpa using ho2⟩ (by omega) ?_ ?_⟩
      · simp -dsimp only [go_sem]<;>simp
      · simp -dsimp only [go_sem,aC]<;>simp
    · have hgk:decide ((k:Int) < (e.ns.length:Int))=false:=by simp; omega
      obtain rfl:k=e.ns.length:=by omega
      rw [o5] at ho2
      rw [hE,<-ho2,Bool.true_and] at ho
      simp (maxSteps:=1000000) -dsimp only [go_sem,↓q1,bI,aC,hgk]
      refine ⟨by omega,by omega,aE (i + 1) 1 ⟨by omega,ho⟩ (by omega) ?_ ?_⟩
      · simp -dsimp only [go_sem]<;>simp
      · simp -dsimp only [go_sem,aC]<;>simp
 · have hg:decide ((i:Int) < (s.es.length:Int))=false:=by simp; omega
   obtain rfl:i=s.es.length:=by omega
   rw [o5] at ho
   rw [<-ho,Bool.true_and] at hF
   simp (maxSteps:=1000000) -dsimp only [go_sem,hg,aC]
   clear ho hi hge hg
   refine aN (α:=Nat) (fun i=>[(1,.va (.c1 (.pt 0 0))),(5,iS .i64 i)]) (fun _=>[.cells (aC s) 25])
    (fun i=>i<=s.ss.length/\(s.ss.drop i).all n8=s.ss.all n8) (fun i=>s.ss.length - i) 0 1 ⟨Nat.zero_le _,rfl⟩ ?_ ?_ ?_
   · simp -dsimp only [go_sem]<;>simp
   · simp -dsimp only [go_sem,aC]<;>simp
   rintro i ⟨hi,ho⟩
   rcases bC i s.ss.length with hlt | hge
   · have hg:decide ((i:Int) < (s.ss.length:Int))=true:=by simp; omega
     obtain ⟨e,hx⟩:∃ e,s.ss[i]? = some e:=⟨_,aU hlt⟩
     have hem:=bM hx
     have q1:=aV (row:=aP) hx
     obtain ⟨_,hln,hfs⟩:=hss e hem
     rw [nL hx] at ho
     have bad:n8 e=false->∀ R,W.Fin 0 K (bS false) R:=fun h R=>fin false R (by rw [hF,<-ho,h]; rfl)
     have hE:n8 e=(!(decide (40 < ((bl e.nm).length:Int)) || decide (18 < (e.fs.length:Int))) && e.fs.all p7):=by
      unfold n8
      have c40:∀ b:Nat,decide (40 < (b:Int))=decide (40 < b):=fun b=>by simp; omega
      have c18:∀ b:Nat,decide (18 < (b:Int))=decide (18 < b):=fun b=>by simp; omega
      simp only [c40,c18]
     cases d1:decide (40 < ((bl e.nm).length:Int)) with
     | true=>
      rw [d1] at hE
      simp (maxSteps:=1000000) -dsimp only [go_sem,hg,↓q1,aP,aC,d1]
      exact ⟨by omega,bad hE _⟩
     | false=>
     cases d2:decide (18 < (e.fs.length:Int)) with
     | true=>
      rw [d1,d2] at hE
      simp (maxSteps:=1000000) -dsimp only [go_sem,hg,↓q1,aP,aC,d1,d2]
      exact ⟨by omega,by omega,bad hE _⟩
     | false=>
      rw [d1,d2] at hE
      simp only [Bool.or_self,Bool.not_false,Bool.true_and] at hE
      simp (maxSteps:=1000000) -dsimp only [go_sem,hg,↓q1,aP,aC,d1,d2]
      refine ⟨by omega,by omega,?_⟩
      refine aN (α:=Nat) (fun k=>[(1,.va (.c1 (.pt 0 0))),(5,iS .i64 i),(6,iS .i64 k)]) (fun _=>[.cells (aC s) 25])
       (fun k=>k<=e.fs.length/\(e.fs.drop k).all p7=e.fs.all p7) (fun k=>e.fs.length - k) 0 1 ⟨Nat.zero_le _,rfl⟩ ?_ ?_ ?_
      · simp -dsimp only [go_sem]<;>simp
      · simp -dsimp only [go_sem,aC]<;>simp
      rintro k ⟨hk,ho2⟩
      rcases bC k e.fs.length with hkt | hkg
      · have hgk:decide ((k:Int) < (e.fs.length:Int))=true:=by simp; omega
        obtain ⟨f,hn⟩:∃ n,e.fs[k]? = some n:=⟨_,aU hkt⟩
        have q2:=aV (row:=aW) hn
        have hity:eW (aL f.ty):=dS (hfs f (bM hn)).ty
        rw [nL hn] at ho2
        have hFl:p7 f=!(decide (40 < ((bl f.nm).length:Int)) || !(fewT f.ty)):=by
         unfold p7
         have c40:∀ b:Nat,decide (40 < (b:Int))=decide (40 < b):=fun b=>by simp; omega
         simp only [c40]
        cases d3:decide (40 < ((bl f.nm).length:Int)) with
        | true=>
         rw [d3] at hFl
         simp (maxSteps:=1000000) -dsimp only [go_sem,↓q1,aP,aC,hgk]
         simp (maxSteps:=1000000) -dsimp only [go_sem,aW,hn,aH,forall_eq',d3]
         refine ⟨by omega,by omega,by omega,bad (by rw [hE,<-ho2,hFl]; rfl) _⟩
        | false=>
         rw [d3] at hFl
         simp only [Bool.false_or,Bool.not_not] at hFl
         rw [hFl] at ho2
         simp (maxSteps:=1000000) -dsimp only [go_sem,↓q1,aP,aC,hgk]
         simp (maxSteps:=1000000) -dsimp only [go_sem,aW,uL,hity,hn,aH,forall_eq',d3]
         refine ⟨by omega,by omega,by omega,by omega,by omega,fun h2=>bad (by rw [hE,<-ho2,h2]; rfl) _,fun h2=>?_⟩
         rw [show fewT f.ty=true by simpa using h2,Bool.true_and] at ho2
         refine ⟨by omega,aE (k + 1) 1 ⟨by omega,ho2⟩ (by omega) ?_ ?_⟩
         · simp -dsimp only [go_sem]<;>simp
         · simp -dsimp only [go_sem,aC]<;>simp
      · have hgk:decide ((k:Int) < (e.fs.length:Int))=false:=by simp; omega
        obtain rfl:k=e.fs.length:=by omega
        rw [o5] at ho2
        rw [hE,<-ho2,Bool.true_and] at ho
        simp (maxSteps:=1000000) -dsimp only [go_sem,↓q1,aP,aC,hgk]
        refine ⟨by omega,by omega,aE (i + 1) 1 ⟨by omega,ho⟩ (by omega) ?_ ?_⟩
        · simp -dsimp only [go_sem]<;>simp
        · simp -dsimp only [go_sem,aC]<;>simp
   · have hg:decide ((i:Int) < (s.ss.length:Int))=false:=by simp; omega
     obtain rfl:i=s.ss.length:=by omega
     rw [o5] at ho
     simp (maxSteps:=1000000) -dsimp only [go_sem,hg,aC]
     exact fin true _ (by rw [hF,<-ho])
def TT:PC:=.seq (.reg [.e 3 (.bx 25 (.t 0)),.e 4 (.bx 28 (.t 1)),.e 5 (.bx 32 (.t 2)),.q 6 (.mv (.i 0))]) (.seq (.seq (.reg [.l 7 (.ldn 5 (.t 5)),.a 8 (.cq 52 [(.t 7),(.i 6)]),.q 9 (.bin .gtr true (.t 8) (.i 6))]) (.cond (.t 9) (.seq (.reg [.q 6 (.mv (.i 9))]) .ret) .skip)) (.seq (.reg [.l 10 (.ldn 3 (.t 3)),.q 11 (.bd [(.int .i64 0),(.slice none 0 0),(.slice none 0 0)] [(0,3,(.t 10))]),.l 12 (.ldn 4 (.t 4)),.l 13 (.ldn 5 (.t 5)),.a 14 (.cq 53 [(.t 11),(.t 12),(.t 13)]),.v 6 14]) .ret))
def TW:List RV:=[.mv (.t 6)]
theorem aON:aO Tryz.prog true ⟨fun r k=>if r=1/\k=1 then .q else if r=3/\k=4 then .q else .own [],fun _=>false⟩ Tryz.f23=some (TT,TW):=by kernel_rfl
def R3:PC:=.seq (.reg [.e 2 (.bx 32 (.t 0)),.q 4 (.mv (.i 0))]) (.seq (.seq (.reg [.q 10 (.fa 0 (.t 2)),.l 11 (.ld1 (.t 10)),.q 12 (.bin .neq true (.t 11) (.i 5)),.v 13 12,⟨some 14,(some (13,true)),.q (.fa 0 (.t 2))⟩,⟨some 15,(some (13,true)),.l (.ld1 (.t 14))⟩,⟨some 16,(some (13,true)),.q (.bin .neq true (.t 15) (.i 6))⟩,.a 17 (.pick (.t 13) (.t 16) (.k (.bool false))),.v 18 17,⟨some 19,(some (18,true)),.q (.fa 3 (.t 2))⟩,⟨some 20,(some (18,true)),.l (.ld1 (.t 19))⟩,⟨some 21,(some (18,true)),.q (.lnL (.t 20))⟩,⟨some 22,(some (18,true)),.q (.bin .eql true (.t 21) (.i 0))⟩,.a 23 (.pick (.t 18) (.t 22) (.k (.bool false))),.v 24 23,⟨some 25,(some (24,true)),.q (.fa 4 (.t 2))⟩,⟨some 26,(some (24,true)),.l (.ld1 (.t 25))⟩,⟨some 27,(some (24,true)),.q (.lnL (.t 26))⟩,⟨some 28,(some (24,true)),.q (.bin .eql true (.t 27) (.i 0))⟩,.a 29 (.pick (.t 24) (.t 28) (.k (.bool false)))]) (.cond (.t 29) (.seq (.reg [.q 4 (.mv (.i 0))]) .ret) .skip)) (.seq (.reg [.q 5 (.mv (.i 0))]) (.seq (.seq (.reg [.q 30 (.fa 3 (.t 2)),.l 31 (.ld1 (.t 30)),.q 32 (.lnL (.t 31)),.q 33 (.mv (.i 0))]) (.block 0 (.loop (.seq (.reg [.q 34 (.bin .lss true (.t 33) (.t 32))]) (.seq (.cond (.t 34) .skip (.exit 0)) (.seq (.block 1 (.seq (.reg [.l 35 (.ia 5 (.t 31) (.t 33)),.l 36 (.ldn 5 (.t 35)),.e 7 (.al (.agg #[(.int .i64 0),(.int .i64 0),(.string (mk [])),(.slice none 0 0),(.slice none 0 0)]) 32),.s (.st 5 (.t 7) (.t 36))]) (.seq (.reg [.v 37 5,.v 38 1,.q 39 (.bin .leq true (.t 37) (.t 38))]) (.cond (.t 39) (.reg [.v 40 5,.l 41 (.ldn 5 (.t 7)),.v 42 1,.q 43 (.bin .sub true (.t 42) (.i 1)),.a 44 (.cq 52 [(.t 41),(.t 43)]),.q 45 (.mx true (.t 40) (.t 44)),.v 5 45]) .skip)))) (.reg [.q 46 (.bin .add true (.t 33) (.i 1)),.v 33 46]))))))) (.seq (.seq (.reg [.q 47 (.fa 4 (.t 2)),.l 48 (.ld1 (.t 47)),.q 49 (.lnL (.t 48)),.q 50 (.mv (.i 0))]) (.block 2 (.loop (.seq (.reg [.q 51 (.bin .lss true (.t 50) (.t 49))]) (.seq (.cond (.t 51) .skip (.exit 2)) (.seq (.block 3 (.seq (.reg [.l 52 (.ia 6 (.t 48) (.t 50)),.l 53 (.ldn 6 (.t 52)),.e 9 (.al (.agg #[(.int .i64 0),(.int .i64 0),(.int .i64 0),(.string (mk [])),(.slice none 0 0),(.slice none 0 0)]) 57),.s (.st 6 (.t 9) (.t 53))]) (.seq (.reg [.v 54 5,.v 55 1,.q 56 (.bin .leq true (.t 54) (.t 55))]) (.cond (.t 56) (.reg [.v 57 5,.q 58 (.fa 1 (.t 9)),.l 59 (.ldn 5 (.t 58)),.v 60 1,.q 61 (.bin .sub true (.t 60) (.i 1)),.a 62 (.cq 52 [(.t 59),(.t 61)]),.q 63 (.mx true (.t 57) (.t 62)),.v 5 63]) .skip)))) (.reg [.q 64 (.bin .add true (.t 50) (.i 1)),.v 50 64]))))))) (.seq (.reg [.v 65 5,.q 66 (.bin .add true (.i 1) (.t 65)),.v 4 66]) .ret)))))
def VA:List RV:=[.mv (.t 4)]
theorem aN6:aO Tryz.prog true ⟨fun r k=>if r=8/\k=4 then .q else if r=14/\k=5 then .q else .own [],fun _=>false⟩ Tryz.f52=some (R3,VA):=by kernel_rfl
def wR:PC:=.seq (.reg [.e 3 (.bx 105 (.t 0)),.e 4 (.bx 28 (.t 1)),.e 5 (.bx 32 (.t 2)),.q 6 (.mv (.i 0))]) (.seq (.seq (.reg [.l 8 (.ldn 3 (.t 3)),.l 9 (.ldn 4 (.t 4)),.a 10 (.cq 90 [(.t 8),(.t 9)]),.q 11 (.not (.t 10)),.v 12 11,⟨some 13,(some (12,false)),.q (.fa 0 (.t 5))⟩,⟨some 14,(some (12,false)),.l (.ld1 (.t 13))⟩,⟨some 15,(some (12,false)),.q (.fa 0 (.t 4))⟩,⟨some 16,(some (12,false)),.l (.ld1 (.t 15))⟩,⟨some 17,(some (12,false)),.q (.bin .neq true (.t 14) (.t 16))⟩,.a 18 (.pick (.t 12) (.k (.bool true)) (.t 17))]) (.cond (.t 18) (.seq (.reg [.q 6 (.mv (.i 13))]) .ret) .skip)) (.seq (.reg [.l 19 (.ldn 3 (.t 3)),.q 20 (.mh 91 [(.t 19)]),.v 7 20]) (.seq (.seq (.reg [.q 21 (.fa 0 (.t 4)),.l 22 (.ld1 (.t 21))]) (.block 0 (.seq (.reg [.q 24 (.bin .eql true (.t 22) (.i 4)),.v 23 24]) (.cond (.t 23) (.reg [.l 25 (.ldn 3 (.t 3)),.q 26 (.mh 92 [(.t 25)]),.v 7 26]) (.seq (.reg [.q 28 (.bin .eql true (.t 22) (.i 5)),.v 27 28]) (.cond (.t 27) (.reg [.l 29 (.ldn 3 (.t 3)),.q 30 (.mh 93 [(.t 29)]),.v 7 30]) (.seq (.reg [.q 32 (.bin .eql true (.t 22) (.i 6)),.v 31 32]) (.cond (.t 31) (.reg [.l 33 (.ldn 3 (.t 3)),.q 34 (.mh 94 [(.t 33)]),.v 7 34]) .skip)))))))) (.seq (.reg [.v 35 7,.l 36 (.ldn 4 (.t 4)),.l 37 (.ldn 5 (.t 5)),.a 38 (.ca (.t 35) [(.t 36),(.t 37)] []),.v 6 38]) .ret))))
def wW:List RV:=[.mv (.t 6)]
theorem aLN:aO Tryz.prog true ⟨fun r k=>if r=1/\k=2 then .q else .own [],fun _=>false⟩ Tryz.f53=some (wR,wW):=by kernel_rfl
def aFE:PC:=.seq (.reg [.e 2 (.bx 25 (.t 0)),.e 3 (.bx 28 (.t 1)),.e 4 (.al (.agg #[(.int .i64 0),(.int .i64 0),(.string (mk [])),(.slice none 0 0),(.slice none 0 0)]) 32)]) (.seq (.reg [.l 5 (.ldn 3 (.t 2)),.q 6 (.bd [(.int .i64 0),(.slice none 0 0),(.slice none 0 0)] [(0,3,(.t 5))]),.l 7 (.ldn 4 (.t 3)),.a 8 (.cl 114 [(.t 6),(.t 7),(.i 22)] []),.s (.st 5 (.t 4) (.t 8))]) .ret)
def aER:List RV:=[.ld (.ldn 5 (.t 4))]
theorem aOI:aO Tryz.prog true ⟨fun _ _=>.own [],fun _=>false⟩ Tryz.f71=some (aFE,aER):=by kernel_rfl
def nS:PC:=.seq (.gh (.reg [.v 31 5,.v 32 31,⟨some 33,(some (32,true)),.q (.fa 1 (.t 3))⟩,⟨some 34,(some (32,true)),.l (.ld1 (.t 33))⟩,⟨some 35,(some (32,true)),.q (.bin .eql true (.t 34) (.i 8))⟩,⟨some 36,(some (32,true)),.q (.mv (.t 35))⟩,⟨some 37,(some (36,false)),.q (.fa 1 (.t 3))⟩,⟨some 38,(some (36,false)),.l (.ld1 (.t 37))⟩,⟨some 39,(some (36,false)),.q (.bin .eql true (.t 38) (.i 16))⟩,⟨some 40,(some (32,true)),.pick (.t 36) (.k (.bool true)) (.t 39)⟩,⟨some 41,(some (32,true)),.q (.mv (.t 40))⟩,⟨some 42,(some (41,false)),.q (.fa 1 (.t 3))⟩,⟨some 43,(some (41,false)),.l (.ld1 (.t 42))⟩,⟨some 44,(some (41,false)),.q (.bin .eql true (.t 43) (.i 32))⟩,⟨some 45,(some (32,true)),.pick (.t 41) (.k (.bool true)) (.t 44)⟩,⟨some 46,(some (32,true)),.q (.mv (.t 45))⟩,⟨some 47,(some (46,false)),.q (.fa 1 (.t 3))⟩,⟨some 48,(some (46,false)),.l (.ld1 (.t 47))⟩,⟨some 49,(some (46,false)),.q (.bin .eql true (.t 48) (.i 64))⟩,⟨some 50,(some (32,true)),.pick (.t 46) (.k (.bool true)) (.t 49)⟩,.a 51 (.pick (.t 32) (.t 50) (.k (.bool false))),.v 4 51])) .ret
@[go_sem ↓] theorem aOU:aY nS:=aZ _
def pS:PC:=.seq (.gh (.reg [.v 54 5,.v 55 54,⟨some 56,(some (55,true)),.q (.fa 1 (.t 3))⟩,⟨some 57,(some (55,true)),.l (.ld1 (.t 56))⟩,⟨some 58,(some (55,true)),.q (.bin .eql true (.t 57) (.i 8))⟩,⟨some 59,(some (55,true)),.q (.mv (.t 58))⟩,⟨some 60,(some (59,false)),.q (.fa 1 (.t 3))⟩,⟨some 61,(some (59,false)),.l (.ld1 (.t 60))⟩,⟨some 62,(some (59,false)),.q (.bin .eql true (.t 61) (.i 16))⟩,⟨some 63,(some (55,true)),.pick (.t 59) (.k (.bool true)) (.t 62)⟩,⟨some 64,(some (55,true)),.q (.mv (.t 63))⟩,⟨some 65,(some (64,false)),.q (.fa 1 (.t 3))⟩,⟨some 66,(some (64,false)),.l (.ld1 (.t 65))⟩,⟨some 67,(some (64,false)),.q (.bin .eql true (.t 66) (.i 32))⟩,⟨some 68,(some (55,true)),.pick (.t 64) (.k (.bool true)) (.t 67)⟩,.a 69 (.pick (.t 55) (.t 68) (.k (.bool false))),.v 4 69])) .ret
@[go_sem ↓] theorem aMN:aY pS:=aZ _
def lG:PC:=.seq (.gh (.reg [.q 85 (.fa 2 (.t 3)),.l 86 (.ld1 (.t 85)),.q 87 (.bin .eql true (.t 86) (.k (.string (mk [])))),.v 88 87,⟨some 89,(some (88,true)),.q (.fa 1 (.t 3))⟩,⟨some 90,(some (88,true)),.l (.ld1 (.t 89))⟩,⟨some 91,(some (88,true)),.q (.bin .geq true (.t 90) (.i 1))⟩,.a 92 (.pick (.t 88) (.t 91) (.k (.bool false))),.v 93 92,⟨some 94,(some (93,true)),.q (.fa 1 (.t 3))⟩,⟨some 95,(some (93,true)),.l (.ld1 (.t 94))⟩,⟨some 96,(some (93,true)),.q (.bin .leq true (.t 95) (.i 32))⟩,.a 97 (.pick (.t 93) (.t 96) (.k (.bool false))),.v 98 97,⟨some 99,(some (98,true)),.q (.fa 3 (.t 3))⟩,⟨some 100,(some (98,true)),.l (.ld1 (.t 99))⟩,⟨some 101,(some (98,true)),.q (.lnL (.t 100))⟩,⟨some 102,(some (98,true)),.q (.bin .eql true (.t 101) (.i 1))⟩,.a 103 (.pick (.t 98) (.t 102) (.k (.bool false))),.v 104 103,⟨some 105,(some (104,true)),.l (.ldn 3 (.t 2))⟩,⟨some 106,(some (104,true)),.q (.fa 3 (.t 3))⟩,⟨some 107,(some (104,true)),.l (.ld1 (.t 106))⟩,⟨some 108,(some (104,true)),.l (.ia 4 (.t 107) (.i 0))⟩,⟨some 109,(some (104,true)),.l (.ldn 4 (.t 108))⟩,⟨some 110,(some (104,true)),.cq 90 [(.t 105),(.t 109)]⟩,.a 111 (.pick (.t 104) (.t 110) (.k (.bool false))),.v 4 111])) .ret
@[go_sem ↓] theorem aJO:aY lG:=aZ _
def CC:PC:=.seq (.gh (.reg [.v 122 7,.v 123 122,⟨some 124,(some (123,true)),.q (.fa 1 (.t 3))⟩,⟨some 125,(some (123,true)),.l (.ld1 (.t 124))⟩,⟨some 126,(some (123,true)),.q (.bin .eql true (.t 125) (.i 0))⟩,.a 127 (.pick (.t 123) (.t 126) (.k (.bool false))),.v 128 127,⟨some 129,(some (128,true)),.q (.fa 3 (.t 3))⟩,⟨some 130,(some (128,true)),.l (.ld1 (.t 129))⟩,⟨some 131,(some (128,true)),.q (.lnL (.t 130))⟩,⟨some 132,(some (128,true)),.q (.bin .eql true (.t 131) (.i 0))⟩,.a 133 (.pick (.t 128) (.t 132) (.k (.bool false))),.v 4 133])) .ret
@[go_sem ↓] theorem aI9:aY CC:=aZ _
def BY:PC:=.seq (.gh (.reg [.q 115 (.fa 0 (.t 2)),.l 116 (.ldn 3 (.t 115)),.q 117 (.fa 2 (.t 3)),.l 118 (.ld1 (.t 117)),.a 119 (.cl 103 [(.t 116),(.t 118)] []),.v 114 119,.q 120 (.ex (.t 114) 0),.q 121 (.ex (.t 114) 1),.e 6 (.al (.agg #[(.string (mk [])),(.slice none 0 0)]) 95),.s (.st 2 (.t 6) (.t 120)),.v 7 121])) (CC)
@[go_sem ↓] theorem aJH:aY BY:=aZ _
def BA:PC:=.seq (.gh (.reg [.v 144 9,.v 145 144,⟨some 146,(some (145,true)),.q (.fa 1 (.t 3))⟩,⟨some 147,(some (145,true)),.l (.ld1 (.t 146))⟩,⟨some 148,(some (145,true)),.q (.bin .eql true (.t 147) (.i 0))⟩,.a 149 (.pick (.t 145) (.t 148) (.k (.bool false))),.v 150 149,⟨some 151,(some (150,true)),.q (.fa 3 (.t 3))⟩,⟨some 152,(some (150,true)),.l (.ld1 (.t 151))⟩,⟨some 153,(some (150,true)),.q (.lnL (.t 152))⟩,⟨some 154,(some (150,true)),.q (.bin .eql true (.t 153) (.i 0))⟩,.a 155 (.pick (.t 150) (.t 154) (.k (.bool false))),.v 4 155])) .ret
@[go_sem ↓] theorem aJ0:aY BA:=aZ _
def A6:PC:=.seq (.gh (.reg [.q 137 (.fa 0 (.t 2)),.l 138 (.ldn 3 (.t 137)),.q 139 (.fa 2 (.t 3)),.l 140 (.ld1 (.t 139)),.a 141 (.cl 98 [(.t 138),(.t 140)] []),.v 136 141,.q 142 (.ex (.t 136) 0),.q 143 (.ex (.t 136) 1),.e 8 (.al (.agg #[(.string (mk [])),(.slice none 0 0),(.slice none 0 0)]) 92),.s (.st 3 (.t 8) (.t 142)),.v 9 143])) (BA)
@[go_sem ↓] theorem aJM:aY A6:=aZ _
def CG:PC:=.seq (.gh (.reg [.q 135 (.bin .eql true (.t 20) (.i 7)),.v 134 135])) (.cond (.t 134) (A6) .skip)
@[go_sem ↓] theorem aJD:aY CG:=aZ _
def BI:PC:=.seq (.gh (.reg [.q 113 (.bin .eql true (.t 20) (.i 6)),.v 112 113])) (.cond (.t 112) (BY) (CG))
@[go_sem ↓] theorem aJN:aY BI:=aZ _
def CI:PC:=.seq (.gh (.reg [.q 84 (.bin .eql true (.t 20) (.i 5)),.v 83 84])) (.cond (.t 83) (lG) (BI))
@[go_sem ↓] theorem aJ6:aY CI:=aZ _
def GF:PC:=.seq (.gh (.reg [.q 71 (.bin .eql true (.t 20) (.i 4)),.v 70 71])) (.cond (.t 70) (.seq (.reg [.v 72 5,.v 73 72,⟨some 74,(some (73,true)),.q (.fa 1 (.t 3))⟩,⟨some 75,(some (73,true)),.l (.ld1 (.t 74))⟩,⟨some 76,(some (73,true)),.q (.bin .geq true (.t 75) (.i 1))⟩,.a 77 (.pick (.t 73) (.t 76) (.k (.bool false))),.v 78 77,⟨some 79,(some (78,true)),.q (.fa 1 (.t 3))⟩,⟨some 80,(some (78,true)),.l (.ld1 (.t 79))⟩,⟨some 81,(some (78,true)),.q (.bin .leq true (.t 80) (.i 2000))⟩,.a 82 (.pick (.t 78) (.t 81) (.k (.bool false))),.v 4 82]) .ret) (CI))
@[go_sem ↓] theorem aK9:aY GF:=aZ _
def HI:PC:=.seq (.gh (.reg [.q 53 (.bin .eql true (.t 20) (.i 3)),.v 52 53])) (.cond (.t 52) (pS) (GF))
@[go_sem ↓] theorem aKS:aY HI:=aZ _
def GY:PC:=.seq (.gh (.reg [.q 30 (.bin .eql true (.t 20) (.i 2)),.v 29 30])) (.cond (.t 29) (nS) (HI))
@[go_sem ↓] theorem aOA:aY GY:=aZ _
def aCU:PC:=.seq (.reg [.e 2 (.bx 105 (.t 0)),.e 3 (.bx 28 (.t 1)),.q 4 (.mv (.k (.bool false)))]) (.seq (.reg [.q 10 (.fa 2 (.t 3)),.l 11 (.ld1 (.t 10)),.q 12 (.bin .eql true (.t 11) (.k (.string (mk [])))),.v 13 12,⟨some 14,(some (13,true)),.q (.fa 3 (.t 3))⟩,⟨some 15,(some (13,true)),.l (.ld1 (.t 14))⟩,⟨some 16,(some (13,true)),.q (.lnL (.t 15))⟩,⟨some 17,(some (13,true)),.q (.bin .eql true (.t 16) (.i 0))⟩,.a 18 (.pick (.t 13) (.t 17) (.k (.bool false))),.v 5 18]) (.seq (.seq (.reg [.q 19 (.fa 0 (.t 3)),.l 20 (.ld1 (.t 19))]) (.block 0 (.seq (.reg [.q 22 (.bin .eql true (.t 20) (.i 1)),.v 21 22]) (.cond (.t 21) (.seq (.reg [.v 23 5,.v 24 23,⟨some 25,(some (24,true)),.q (.fa 1 (.t 3))⟩,⟨some 26,(some (24,true)),.l (.ld1 (.t 25))⟩,⟨some 27,(some (24,true)),.q (.bin .eql true (.t 26) (.i 0))⟩,.a 28 (.pick (.t 24) (.t 27) (.k (.bool false))),.v 4 28]) .ret) (GY))))) (.seq (.reg [.q 4 (.mv (.k (.bool false)))]) .ret)))
def aCF:List RV:=[.mv (.t 4)]
theorem aM1:aO Tryz.prog true ⟨fun r k=>if r=12/\k=25 then .q else .own [],fun r=>[5,6,7,8,9,11,12,13,14,15,16,17,18].contains r⟩ Tryz.f90=some (aCU,aCF):=by kernel_rfl
def GG:PC:=.gh (.reg [.q 29 (.fa 1 (.t 5)),.l 30 (.ld1 (.t 29)),.q 31 (.bin .eql true (.t 30) (.i 0)),.v 32 31,⟨some 33,(some (32,false)),.q (.fa 1 (.t 5))⟩,⟨some 34,(some (32,false)),.l (.ld1 (.t 33))⟩,⟨some 35,(some (32,false)),.q (.bin .eql true (.t 34) (.i 1))⟩,.a 36 (.pick (.t 32) (.k (.bool true)) (.t 35)),.v 7 36])
@[go_sem ↓] theorem aMJ:aY GG:=aZ _
def zD:PC:=.gh (.reg [.q 39 (.fa 1 (.t 4)),.l 40 (.ld1 (.t 39)),.q 41 (.bin .eql true (.t 40) (.i 64)),.v 42 41,⟨some 43,(some (42,false)),.q (.fa 1 (.t 5))⟩,⟨some 44,(some (42,false)),.l (.ld1 (.t 43))⟩,⟨some 45,(some (42,false)),.q (.fa 1 (.t 4))⟩,⟨some 46,(some (42,false)),.l (.ld1 (.t 45))⟩,⟨some 47,(some (42,false)),.q (.bin .sub true (.t 46) (.i 1))⟩,⟨some 48,(some (42,false)),.q (.bin .shl true (.i (-1)) (.t 47))⟩,⟨some 49,(some (42,false)),.q (.bin .geq true (.t 44) (.t 48))⟩,⟨some 50,(some (42,false)),.q (.mv (.t 49))⟩,⟨some 51,(some (50,true)),.q (.fa 1 (.t 5))⟩,⟨some 52,(some (50,true)),.l (.ld1 (.t 51))⟩,⟨some 53,(some (50,true)),.q (.fa 1 (.t 4))⟩,⟨some 54,(some (50,true)),.l (.ld1 (.t 53))⟩,⟨some 55,(some (50,true)),.q (.bin .sub true (.t 54) (.i 1))⟩,⟨some 56,(some (50,true)),.q (.bin .shl true (.i 1) (.t 55))⟩,⟨some 57,(some (50,true)),.q (.bin .lss true (.t 52) (.t 56))⟩,⟨some 58,(some (42,false)),.pick (.t 50) (.t 57) (.k (.bool false))⟩,.a 59 (.pick (.t 42) (.k (.bool true)) (.t 58)),.v 7 59])
@[go_sem ↓] theorem aMB:aY zD:=aZ _
def B7:PC:=.gh (.reg [.q 62 (.fa 1 (.t 5)),.l 63 (.ld1 (.t 62)),.q 64 (.bin .geq true (.t 63) (.i 0)),.v 65 64,⟨some 66,(some (65,true)),.q (.fa 1 (.t 5))⟩,⟨some 67,(some (65,true)),.l (.ld1 (.t 66))⟩,⟨some 68,(some (65,true)),.q (.fa 1 (.t 4))⟩,⟨some 69,(some (65,true)),.l (.ld1 (.t 68))⟩,⟨some 70,(some (65,true)),.q (.bin .shl true (.i 1) (.t 69))⟩,⟨some 71,(some (65,true)),.q (.bin .lss true (.t 67) (.t 70))⟩,.a 72 (.pick (.t 65) (.t 71) (.k (.bool false))),.v 7 72])
@[go_sem ↓] theorem aJC:aY B7:=aZ _
def CL:PC:=.gh (.reg [.q 83 (.fa 2 (.t 8)),.l 84 (.ld1 (.t 83)),.q 85 (.mf 118 [(.t 5)]),.a 86 (.cl 117 [(.t 84),(.t 85)] [2]),.v 7 86])
@[go_sem ↓] theorem aJQ:aY CL:=aZ _
def CD:PC:=.seq (.gh (.reg [.q 76 (.fa 0 (.t 3)),.l 77 (.ldn 3 (.t 76)),.q 78 (.fa 2 (.t 4)),.l 79 (.ld1 (.t 78)),.a 80 (.cl 98 [(.t 77),(.t 79)] []),.v 75 80,.q 81 (.ex (.t 75) 0),.q 82 (.ex (.t 75) 1),.e 8 (.al (.agg #[(.string (mk [])),(.slice none 0 0),(.slice none 0 0)]) 92),.s (.st 3 (.t 8) (.t 81)),.v 9 82])) (CL)
@[go_sem ↓] theorem aJX:aY CD:=aZ _
def BE:PC:=.seq (.gh (.reg [.q 74 (.bin .eql true (.t 26) (.i 7)),.v 73 74])) (.cond (.t 73) (CD) .skip)
@[go_sem ↓] theorem aJJ:aY BE:=aZ _
def GJ:PC:=.seq (.gh (.reg [.q 61 (.bin .eql true (.t 26) (.i 3)),.v 60 61])) (.cond (.t 60) (B7) (BE))
@[go_sem ↓] theorem aMT:aY GJ:=aZ _
def JF:PC:=.seq (.gh (.reg [.q 38 (.bin .eql true (.t 26) (.i 2)),.v 37 38])) (.cond (.t 37) (zD) (GJ))
@[go_sem ↓] theorem aOP:aY JF:=aZ _
def jX:PC:=.seq (.seq (.gh (.reg [.v 87 7,.q 88 (.not (.t 87))])) (.cond (.t 88) (.seq (.reg [.q 6 (.mv (.i 4))]) .ret) .skip)) (.seq (.reg [.q 6 (.mv (.i 0))]) .ret)
@[go_sem ↓] theorem aJE:aY jX:=aZ _
def GE:PC:=.seq (.reg [.e 3 (.bx 105 (.t 0)),.e 4 (.bx 28 (.t 1)),.e 5 (.bx 32 (.t 2)),.q 6 (.mv (.i 0))]) (.seq (.seq (.reg [.q 10 (.fa 2 (.t 5)),.l 11 (.ld1 (.t 10)),.q 12 (.bin .neq true (.t 11) (.k (.string (mk [])))),.v 13 12,⟨some 14,(some (13,false)),.q (.fa 3 (.t 5))⟩,⟨some 15,(some (13,false)),.l (.ld1 (.t 14))⟩,⟨some 16,(some (13,false)),.q (.lnL (.t 15))⟩,⟨some 17,(some (13,false)),.q (.bin .gtr true (.t 16) (.i 0))⟩,.a 18 (.pick (.t 13) (.k (.bool true)) (.t 17)),.v 19 18,⟨some 20,(some (19,false)),.q (.fa 4 (.t 5))⟩,⟨some 21,(some (19,false)),.l (.ld1 (.t 20))⟩,⟨some 22,(some (19,false)),.q (.lnL (.t 21))⟩,⟨some 23,(some (19,false)),.q (.bin .gtr true (.t 22) (.i 0))⟩,.a 24 (.pick (.t 19) (.k (.bool true)) (.t 23))]) (.cond (.t 24) (.seq (.reg [.q 6 (.mv (.i 13))]) .ret) .skip)) (.seq (.reg [.q 7 (.mv (.k (.bool false)))]) (.seq (.seq (.reg [.q 25 (.fa 0 (.t 4)),.l 26 (.ld1 (.t 25))]) (.block 0 (.seq (.reg [.q 28 (.bin .eql true (.t 26) (.i 1)),.v 27 28]) (.cond (.t 27) (GG) (JF))))) (jX))))
def IA:List RV:=[.mv (.t 6)]
theorem aLU:aO Tryz.prog true ⟨fun r k=>if r=13/\k=3 then .own [2] else .own [],fun r=>[7,9,11,12,14,6,8,10,13].contains r⟩ Tryz.f91=some (GE,IA):=by kernel_rfl
def aEY:PC:=.seq (.reg [.e 3 (.bx 105 (.t 0)),.e 4 (.bx 28 (.t 1)),.e 5 (.bx 32 (.t 2)),.q 6 (.mv (.i 0))]) (.seq (.block 0 (.seq (.reg [.q 8 (.fa 1 (.t 5)),.l 9 (.ld1 (.t 8)),.q 10 (.bin .neq true (.t 9) (.i 0)),.v 11 10,⟨some 12,(some (11,false)),.q (.fa 3 (.t 5))⟩,⟨some 13,(some (11,false)),.l (.ld1 (.t 12))⟩,⟨some 14,(some (11,false)),.q (.lnL (.t 13))⟩,⟨some 15,(some (11,false)),.q (.bin .gtr true (.t 14) (.i 0))⟩,.a 16 (.pick (.t 11) (.k (.bool true)) (.t 15)),.v 17 16,⟨some 18,(some (17,false)),.q (.fa 4 (.t 5))⟩,⟨some 19,(some (17,false)),.l (.ld1 (.t 18))⟩,⟨some 20,(some (17,false)),.q (.lnL (.t 19))⟩,⟨some 21,(some (17,false)),.q (.bin .gtr true (.t 20) (.i 0))⟩,.a 22 (.pick (.t 17) (.k (.bool true)) (.t 21)),.v 7 22]) (.cond (.t 7) (.seq (.reg [.q 6 (.mv (.i 13))]) .ret) (.seq (.reg [.q 24 (.fa 2 (.t 5)),.l 25 (.ld1 (.t 24)),.q 26 (.lnS (.t 25)),.q 27 (.fa 1 (.t 4)),.l 28 (.ld1 (.t 27)),.q 29 (.bin .gtr true (.t 26) (.t 28)),.v 23 29]) (.cond (.t 23) (.seq (.reg [.q 6 (.mv (.i 3))]) .ret) .skip))))) (.seq (.reg [.q 6 (.mv (.i 0))]) .ret))
def aB9:List RV:=[.mv (.t 6)]
theorem aOG:aO Tryz.prog true ⟨fun _ _=>.own [],fun _=>false⟩ Tryz.f92=some (aEY,aB9):=by kernel_rfl
def N0:PC:=.seq (.reg [.e 3 (.bx 105 (.t 0)),.e 4 (.bx 28 (.t 1)),.e 5 (.bx 32 (.t 2)),.q 6 (.mv (.i 0))]) (.seq (.block 0 (.seq (.reg [.q 11 (.fa 1 (.t 5)),.l 12 (.ld1 (.t 11)),.q 13 (.bin .neq true (.t 12) (.i 0)),.v 14 13,⟨some 15,(some (14,false)),.q (.fa 2 (.t 5))⟩,⟨some 16,(some (14,false)),.l (.ld1 (.t 15))⟩,⟨some 17,(some (14,false)),.q (.bin .neq true (.t 16) (.k (.string (mk []))))⟩,.a 18 (.pick (.t 14) (.k (.bool true)) (.t 17)),.v 19 18,⟨some 20,(some (19,false)),.q (.fa 4 (.t 5))⟩,⟨some 21,(some (19,false)),.l (.ld1 (.t 20))⟩,⟨some 22,(some (19,false)),.q (.lnL (.t 21))⟩,⟨some 23,(some (19,false)),.q (.bin .gtr true (.t 22) (.i 0))⟩,.a 24 (.pick (.t 19) (.k (.bool true)) (.t 23)),.v 10 24]) (.cond (.t 10) (.seq (.reg [.q 6 (.mv (.i 13))]) .ret) (.seq (.reg [.q 26 (.fa 3 (.t 5)),.l 27 (.ld1 (.t 26)),.q 28 (.lnL (.t 27)),.q 29 (.fa 1 (.t 4)),.l 30 (.ld1 (.t 29)),.q 31 (.bin .gtr true (.t 28) (.t 30)),.v 25 31]) (.cond (.t 25) (.seq (.reg [.q 6 (.mv (.i 3))]) .ret) .skip))))) (.seq (.seq (.reg [.q 32 (.fa 3 (.t 5)),.l 33 (.ld1 (.t 32)),.q 34 (.lnL (.t 33)),.q 35 (.mv (.i 0))]) (.block 1 (.loop (.seq (.reg [.q 36 (.bin .lss true (.t 35) (.t 34))]) (.seq (.cond (.t 36) .skip (.exit 1)) (.seq (.block 2 (.seq (.reg [.l 37 (.ia 5 (.t 33) (.t 35)),.l 38 (.ldn 5 (.t 37)),.e 8 (.al (.agg #[(.int .i64 0),(.int .i64 0),(.string (mk [])),(.slice none 0 0),(.slice none 0 0)]) 32),.s (.st 5 (.t 8) (.t 38))]) (.seq (.reg [.l 39 (.ldn 3 (.t 3)),.q 40 (.fa 3 (.t 4)),.l 41 (.ld1 (.t 40)),.l 42 (.ia 4 (.t 41) (.i 0)),.l 43 (.ldn 4 (.t 42)),.l 44 (.ldn 5 (.t 8)),.a 45 (.cq 53 [(.t 39),(.t 43),(.t 44)]),.v 9 45]) (.seq (.reg [.v 46 9,.q 47 (.bin .neq true (.t 46) (.i 0))]) (.cond (.t 47) (.seq (.reg [.v 48 9,.v 6 48]) .ret) .skip))))) (.reg [.q 49 (.bin .add true (.t 35) (.i 1)),.v 35 49]))))))) (.seq (.reg [.q 6 (.mv (.i 0))]) .ret)))
def NL:List RV:=[.mv (.t 6)]
theorem aMW:aO Tryz.prog true ⟨fun r k=>if r=8/\k=6 then .q else .own [],fun _=>false⟩ Tryz.f93=some (N0,NL):=by kernel_rfl
def AJ:PC:=.seq (.gh (.reg [.v 63 13,.q 64 (.bin .neq true (.t 63) (.i 0))])) (.cond (.t 64) (.seq (.reg [.v 65 13,.v 6 65]) .ret) .skip)
@[go_sem ↓] theorem aN2:aY AJ:=aZ _
def F1:PC:=.seq (.gh (.reg [.l 57 (.ldn 3 (.t 3)),.q 58 (.fa 2 (.t 11)),.l 59 (.ldn 4 (.t 58)),.q 60 (.fa 1 (.t 10)),.l 61 (.ldn 5 (.t 60)),.a 62 (.cq 53 [(.t 57),(.t 59),(.t 61)]),.v 13 62])) (AJ)
@[go_sem ↓] theorem aN8:aY F1:=aZ _
def H0:PC:=.seq (.gh (.reg [.l 51 (.ldn 2 (.t 7)),.q 52 (.fa 0 (.t 10)),.l 53 (.ld1 (.t 52)),.a 54 (.cl 104 [(.t 51),(.t 53)] []),.v 50 54,.q 55 (.ex (.t 50) 0),.q 56 (.ex (.t 50) 1),.e 11 (.al (.agg #[(.int .i64 0),(.string (mk [])),(.int .i64 0),(.int .i64 0),(.string (mk [])),(.slice none 0 0),(.bool false)]) 97),.s (.st 7 (.t 11) (.t 55)),.v 12 56])) (F1)
@[go_sem ↓] theorem aK7:aY H0:=aZ _
def yS:PC:=.seq (.seq (.gh (.reg [.q 22 (.fa 1 (.t 5)),.l 23 (.ld1 (.t 22)),.q 24 (.bin .neq true (.t 23) (.i 0)),.v 25 24,⟨some 26,(some (25,false)),.q (.fa 2 (.t 5))⟩,⟨some 27,(some (25,false)),.l (.ld1 (.t 26))⟩,⟨some 28,(some (25,false)),.q (.bin .neq true (.t 27) (.k (.string (mk []))))⟩,.a 29 (.pick (.t 25) (.k (.bool true)) (.t 28)),.v 30 29,⟨some 31,(some (30,false)),.q (.fa 3 (.t 5))⟩,⟨some 32,(some (30,false)),.l (.ld1 (.t 31))⟩,⟨some 33,(some (30,false)),.q (.lnL (.t 32))⟩,⟨some 34,(some (30,false)),.q (.bin .gtr true (.t 33) (.i 0))⟩,.a 35 (.pick (.t 30) (.k (.bool true)) (.t 34)),.v 36 35,⟨some 37,(some (36,false)),.l (.ldn 2 (.t 7))⟩,⟨some 38,(some (36,false)),.q (.fa 4 (.t 5))⟩,⟨some 39,(some (36,false)),.l (.ld1 (.t 38))⟩,⟨some 40,(some (36,false)),.cq 119 [(.t 37),(.t 39)]⟩,⟨some 41,(some (36,false)),.q (.not (.t 40))⟩,.a 42 (.pick (.t 36) (.k (.bool true)) (.t 41))])) (.cond (.t 42) (.seq (.reg [.q 6 (.mv (.i 13))]) .ret) .skip)) (.seq (.seq (.reg [.q 43 (.fa 4 (.t 5)),.l 44 (.ld1 (.t 43)),.q 45 (.lnL (.t 44)),.q 46 (.mv (.i 0))]) (.block 0 (.loop (.seq (.reg [.q 47 (.bin .lss true (.t 46) (.t 45))]) (.seq (.cond (.t 47) .skip (.exit 0)) (.seq (.block 1 (.seq (.reg [.l 48 (.ia 6 (.t 44) (.t 46)),.l 49 (.ldn 6 (.t 48)),.e 10 (.al (.agg #[(.int .i64 0),(.int .i64 0),(.int .i64 0),(.string (mk [])),(.slice none 0 0),(.slice none 0 0)]) 57),.s (.st 6 (.t 10) (.t 49))]) (H0))) (.reg [.q 66 (.bin .add true (.t 46) (.i 1)),.v 46 66]))))))) (.seq (.reg [.q 6 (.mv (.i 0))]) .ret))
@[go_sem ↓] theorem aNE:aY yS:=aZ _
def aFV:PC:=.seq (.reg [.e 3 (.bx 105 (.t 0)),.e 4 (.bx 28 (.t 1)),.e 5 (.bx 32 (.t 2)),.q 6 (.mv (.i 0))]) (.seq (.reg [.q 15 (.fa 0 (.t 3)),.l 16 (.ldn 3 (.t 15)),.q 17 (.fa 2 (.t 4)),.l 18 (.ld1 (.t 17)),.a 19 (.cl 103 [(.t 16),(.t 18)] []),.v 14 19,.q 20 (.ex (.t 14) 0),.q 21 (.ex (.t 14) 1),.e 7 (.al (.agg #[(.string (mk [])),(.slice none 0 0)]) 95),.s (.st 2 (.t 7) (.t 20)),.v 8 21]) (yS))
def aCE:List RV:=[.mv (.t 6)]
theorem aK5:aO Tryz.prog true ⟨fun r k=>if r=2/\k=18 then .q else if r=8/\k=5 then .q else .own [],fun r=>[2,7,8,9].contains r⟩ Tryz.f94=some (aFV,aCE):=by kernel_rfl
def yF:PC:=.seq (.reg [.e 3 (.bx 105 (.t 0)),.e 4 (.bx 28 (.t 1)),.e 6 (.al (.agg #[(.int .i64 0),(.int .i64 0),(.string (mk [])),(.slice none 0 0),(.slice none 0 0)]) 32)]) (.seq (.seq (.reg [.v 12 2,.q 13 (.bin .lss true (.t 12) (.i 0)),.v 14 13,⟨some 15,(some (14,false)),.l (.ldn 3 (.t 3))⟩,⟨some 16,(some (14,false)),.l (.ldn 4 (.t 4))⟩,⟨some 17,(some (14,false)),.cq 90 [(.t 15),(.t 16)]⟩,⟨some 18,(some (14,false)),.q (.not (.t 17))⟩,.a 19 (.pick (.t 14) (.k (.bool true)) (.t 18))]) (.cond (.t 19) (.seq (.reg [.q 20 (.bd [(.int .i64 0),(.int .i64 0),(.string (mk [])),(.slice none 0 0),(.slice none 0 0)] []),.s (.st 5 (.t 6) (.t 20))]) .ret) .skip)) (.seq (.reg [.q 21 (.fa 0 (.t 4)),.l 22 (.ld1 (.t 21)),.q 23 (.bd [(.int .i64 0),(.int .i64 0),(.string (mk [])),(.slice none 0 0),(.slice none 0 0)] [(0,1,(.t 22))]),.e 7 (.al (.agg #[(.int .i64 0),(.int .i64 0),(.string (mk [])),(.slice none 0 0),(.slice none 0 0)]) 32),.s (.st 5 (.t 7) (.t 23))]) (.seq (.seq (.reg [.q 24 (.fa 0 (.t 4)),.l 25 (.ld1 (.t 24)),.q 26 (.bin .neq true (.t 25) (.i 6))]) (.cond (.t 26) (.seq (.reg [.l 27 (.ldn 5 (.t 7)),.s (.st 5 (.t 6) (.t 27))]) .ret) .skip)) (.seq (.reg [.q 29 (.fa 0 (.t 3)),.l 30 (.ldn 3 (.t 29)),.q 31 (.fa 2 (.t 4)),.l 32 (.ld1 (.t 31)),.a 33 (.cl 103 [(.t 30),(.t 32)] []),.v 28 33,.q 34 (.ex (.t 28) 0),.q 35 (.ex (.t 28) 1),.e 8 (.al (.agg #[(.string (mk [])),(.slice none 0 0)]) 95),.s (.st 2 (.t 8) (.t 34)),.v 9 35]) (.seq (.seq (.reg [.q 36 (.fa 1 (.t 8)),.l 37 (.ld1 (.t 36)),.q 38 (.lnL (.t 37)),.q 39 (.mv (.i 0))]) (.block 0 (.loop (.seq (.reg [.q 40 (.bin .lss true (.t 39) (.t 38))]) (.seq (.cond (.t 40) .skip (.exit 0)) (.seq (.block 1 (.seq (.reg [.l 41 (.ia 7 (.t 37) (.t 39)),.l 42 (.ldn 7 (.t 41)),.e 11 (.al (.agg #[(.int .i64 0),(.string (mk [])),(.int .i64 0),(.int .i64 0),(.string (mk [])),(.slice none 0 0),(.bool false)]) 97),.s (.st 7 (.t 11) (.t 42))]) (.seq (.reg [.q 43 (.fa 6 (.t 11)),.l 44 (.ld1 (.t 43)),.q 45 (.not (.t 44))]) (.cond (.t 45) (.ord  [.q (.q 46 (.fa 4 (.t 7))),.q (.l 47 (.ld1 (.t 46))),.q (.q 48 (.fa 0 (.t 11))),.q (.l 49 (.ld1 (.t 48))),.q (.l 50 (.ldn 3 (.t 3))),.q (.q 51 (.fa 2 (.t 11))),.q (.l 52 (.ldn 4 (.t 51))),.q (.v 53 2),.q (.q 54 (.bin .sub true (.t 53) (.i 1))),.m (.a 55 (.cl 114 [(.t 50),(.t 52),(.t 54)] [])),.rc (.q 46 (.fa 4 (.t 7))),.rc (.l 47 (.ld1 (.t 46))),.rc (.q 48 (.fa 0 (.t 11))),.rc (.l 49 (.ld1 (.t 48))),.q (.q 56 (.bd [(.int .i64 0),(.int .i64 0),(.int .i64 0),(.string (mk [])),(.slice none 0 0),(.slice none 0 0)] [(0,1,(.t 49)),(1,5,(.t 55))])),.m (.e 57 (.bsl 57 6 [(.t 56)])),.rc (.q 46 (.fa 4 (.t 7))),.rc (.l 47 (.ld1 (.t 46))),.m (.e 58 (.ap 57 6 88 (.t 47) (.t 57))),.q (.q 59 (.fa 4 (.t 7))),.m (.s (.st 1 (.t 59) (.t 58)))]) .skip)))) (.reg [.q 60 (.bin .add true (.t 39) (.i 1)),.v 39 60]))))))) (.seq (.reg [.l 61 (.ldn 5 (.t 7)),.s (.st 5 (.t 6) (.t 61))]) .ret))))))
def y4:List RV:=[.ld (.ldn 5 (.t 6))]
theorem aIQ:aO Tryz.prog true ⟨fun r k=>if r=1/\k=5 then .q else .own [],fun _=>false⟩ Tryz.f114=some (yF,y4):=by kernel_rfl
def VS:PC:=.seq (.reg [.q 3 (.mv (.k (.bool false)))]) (.seq (.reg [.v 4 0,.q 5 (.fa 1 (.t 1)),.l 6 (.ld1 (.t 5)),.q 7 (.bin .eql true (.t 4) (.t 6)),.v 3 7]) .ret)
def XU:List RV:=[.mv (.t 3)]
theorem aHP:aO Tryz.prog true ⟨fun _ _=>.own [],fun _=>false⟩ Tryz.f118=some (VS,XU):=by kernel_rfl
def m9:PC:=.seq (.gh (.reg [.v 25 8,.q 26 (.not (.t 25)),.v 27 26,⟨some 28,(some (27,false)),.q (.mv (.t 5))⟩,⟨some 29,(some (27,false)),.q (.bin .gtr true (.t 28) (.i 0))⟩,⟨some 30,(some (27,false)),.q (.mv (.t 29))⟩,⟨some 31,(some (30,true)),.q (.mv (.t 1))⟩,⟨some 32,(some (30,true)),.q (.mv (.t 5))⟩,⟨some 33,(some (30,true)),.q (.bin .sub true (.t 32) (.i 1))⟩,⟨some 34,(some (30,true)),.l (.ia 6 (.t 31) (.t 33))⟩,⟨some 35,(some (30,true)),.q (.fa 0 (.t 34))⟩,⟨some 36,(some (30,true)),.l (.ld1 (.t 35))⟩,⟨some 37,(some (30,true)),.q (.fa 0 (.t 6))⟩,⟨some 38,(some (30,true)),.l (.ld1 (.t 37))⟩,⟨some 39,(some (30,true)),.q (.bin .geq true (.t 36) (.t 38))⟩,⟨some 40,(some (27,false)),.pick (.t 30) (.t 39) (.k (.bool false))⟩,.a 41 (.pick (.t 27) (.k (.bool true)) (.t 40))])) (.cond (.t 41) (.seq (.reg [.q 4 (.mv (.k (.bool false)))]) .ret) .skip)
@[go_sem ↓] theorem aJ1:aY m9:=aZ _
def B4:PC:=.seq (.gh (.reg [.l 19 (.ldn 2 (.t 2)),.q 20 (.fa 0 (.t 6)),.l 21 (.ld1 (.t 20)),.a 22 (.cl 104 [(.t 19),(.t 21)] []),.v 18 22,.q 23 (.ex (.t 18) 0),.q 24 (.ex (.t 18) 1),.e 7 (.al (.agg #[(.int .i64 0),(.string (mk [])),(.int .i64 0),(.int .i64 0),(.string (mk [])),(.slice none 0 0),(.bool false)]) 97),.s (.st 7 (.t 7) (.t 23)),.v 8 24])) (m9)
@[go_sem ↓] theorem aJ4:aY B4:=aZ _
def qS:PC:=.seq (.gh (.reg [.q 50 (.fa 6 (.t 10)),.l 51 (.ld1 (.t 50)),.q 52 (.not (.t 51)),.v 53 52,⟨some 54,(some (53,true)),.q (.mv (.t 1))⟩,⟨some 55,(some (53,true)),.q (.mf 142 [(.t 10)])⟩,⟨some 56,(some (53,true)),.cl 141 [(.t 54),(.t 55)] [1]⟩,⟨some 57,(some (53,true)),.q (.not (.t 56))⟩,.a 58 (.pick (.t 53) (.t 57) (.k (.bool false)))])) (.cond (.t 58) (.seq (.reg [.q 4 (.mv (.k (.bool false)))]) .ret) .skip)
@[go_sem ↓] theorem aGP:aY qS:=aZ _
def A0:PC:=.seq (.seq (.gh (.reg [.q 43 (.fa 1 (.t 2)),.l 44 (.ld1 (.t 43)),.q 45 (.lnL (.t 44)),.q 46 (.mv (.i 0))])) (.block 2 (.loop (.seq (.reg [.q 47 (.bin .lss true (.t 46) (.t 45))]) (.seq (.cond (.t 47) .skip (.exit 2)) (.seq (.block 3 (.seq (.reg [.l 48 (.ia 7 (.t 44) (.t 46)),.l 49 (.ldn 7 (.t 48)),.e 10 (.al (.agg #[(.int .i64 0),(.string (mk [])),(.int .i64 0),(.int .i64 0),(.string (mk [])),(.slice none 0 0),(.bool false)]) 97),.s (.st 7 (.t 10) (.t 49))]) (qS))) (.reg [.q 59 (.bin .add true (.t 46) (.i 1)),.v 46 59]))))))) (.seq (.reg [.q 4 (.mv (.k (.bool true)))]) .ret)
@[go_sem ↓] theorem aJK:aY A0:=aZ _
def YL:PC:=.seq (.reg [.e 2 (.bx 95 (.t 0)),.q 4 (.mv (.k (.bool false)))]) (.seq (.seq (.reg [.v 11 1,.q 12 (.lnL (.t 11)),.q 13 (.mv (.i 0))]) (.block 0 (.loop (.seq (.reg [.q 14 (.bin .lss true (.t 13) (.t 12))]) (.seq (.cond (.t 14) .skip (.exit 0)) (.seq (.block 1 (.seq (.reg [.v 15 13,.l 16 (.ia 6 (.t 11) (.t 13)),.l 17 (.ldn 6 (.t 16)),.e 6 (.al (.agg #[(.int .i64 0),(.int .i64 0),(.int .i64 0),(.string (mk [])),(.slice none 0 0),(.slice none 0 0)]) 57),.v 5 15,.s (.st 6 (.t 6) (.t 17))]) (B4))) (.reg [.q 42 (.bin .add true (.t 13) (.i 1)),.v 13 42]))))))) (A0))
def X6:List RV:=[.mv (.t 4)]
theorem aI1:aO Tryz.prog true ⟨fun r k=>if r=11/\k=6 then .own [1] else .own [],fun r=>[4,5,8,11].contains r⟩ Tryz.f119=some (YL,X6):=by kernel_rfl
def Y2:PC:=.seq (.reg [.e 2 (.bx 57 (.t 0)),.q 3 (.mv (.k (.bool false)))]) (.seq (.reg [.q 4 (.fa 0 (.t 2)),.l 5 (.ld1 (.t 4)),.q 6 (.fa 0 (.t 1)),.l 7 (.ld1 (.t 6)),.q 8 (.bin .eql true (.t 5) (.t 7)),.v 3 8]) .ret)
def X2:List RV:=[.mv (.t 3)]
theorem aHA:aO Tryz.prog true ⟨fun _ _=>.own [],fun _=>false⟩ Tryz.f142=some (Y2,X2):=by kernel_rfl
def lM (v:Vl):Bool:=(v.k != 5) && (v.k != 6) && ((v.l.length:Int) == 0) && ((v.f.length:Int) == 0)
def lZ (g:Vl->Int) (most:Int) (d:Int) (x:Vl):Int:=bif decide (d<=most) then max d (g x) else d
def pL (g:Vl->Int) (most:Int) (d:Int) (x:Int × Vl):Int:=bif decide (d<=most) then max d (g x.2) else d
def IY (g:Vl->Int) (most:Int) (v:Vl):Int:=bif lM v then 0 else 1 + v.f.foldl (pL g most) (v.l.foldl (lZ g most) 0)
def rN:Nat->Vl->Int
 | 0=>IY (fun _=>0) (-1)
 | n + 1=>IY (rN n) n
def iK:Nat->Vl->Int
 | 0=>fun _=>0
 | n + 1=>rN n
theorem zY (n:Nat):rN n=IY (iK n) ((n:Int) - 1):=by
 cases n with
 | zero=>rfl
 | succ n=>rw [rN,iK]; congr 1; omega
theorem HK {g:Vl->Int} {most B:Int} (hg:∀ x,0<=g x/\g x<=B) {d:Int} (h:0<=d/\d<=B) (x:Vl):0<=lZ g most d x/\lZ g most d x<=B:=by
 unfold lZ
 cases decide (d<=most)
 · exact h
 · have:=hg x; show 0<=max d (g x)/\max d (g x)<=B; omega
theorem QK {g:Vl->Int} {most B:Int} (hg:∀ x,0<=g x/\g x<=B) {d:Int} (h:0<=d/\d<=B) (x:Int × Vl):0<=pL g most d x/\pL g most d x<=B:=HK hg h x.2
theorem pQ {α:Type} {f:Int->α->Int} {B:Int} (h:∀ d x,0<=d/\d<=B->0<=f d x/\f d x<=B):∀ (l:List α) (d:Int),0<=d/\d<=B->0<=l.foldl f d/\l.foldl f d<=B
 | [],_,hd=>hd
 | x :: l,d,hd=>pQ h l (f d x) (h d x hd)
theorem pR:∀ (n:Nat) (x:Vl),0<=iK n x/\iK n x<=n
 | 0,_=>⟨Int.le_refl _,Int.le_refl _⟩
 | n + 1,x=>by
  rw [iK,zY]
  unfold IY
  have h1:=pQ (f:=lZ (iK n) ((n:Int) - 1)) (fun d x h=>HK (pR n) h x) x.l 0 ⟨Int.le_refl _,by omega⟩
  have h2:=pQ (f:=pL (iK n) ((n:Int) - 1)) (fun d x h=>QK (pR n) h x) x.f _ h1
  cases lM x
  · show 0<=1 + _/\1 + _<=_; omega
  · show (0:Int)<=0/\(0:Int)<=_; omega
theorem DX {α β:Type} {f:β->α->β} {l:List α} {i:Nat} {x:α} (h:l[i]? = some x) (d:β):(l.take (i + 1)).foldl f d=f ((l.take i).foldl f d) x:=by rw [fT h,List.foldl_append]; rfl
def zV (n:Nat):List S->Prop:=fun av=>match av with
 | [.va (.gs r),.va (.c1 (.vl (.int .i64 k)))]=>0 < n/\s3 r/\k=(n:Int) - 2/\n<=100
 | _=>False
theorem lL {n:Nat} {av:List S} (h:zV n av):∃ m v,n=m + 1/\av=[.va (.gs (a8 v)),iS .i64 ((m:Int) - 1)]/\VlOk v/\m<=99:=by
 unfold zV at h
 split at h
 · obtain ⟨h0,⟨v,rfl,hv⟩,rfl,hn⟩:=h
   refine ⟨n - 1,v,by omega,?_,hv,by omega⟩
   rw [show (n:Int) - 2=((n - 1:Nat):Int) - 1 by omega]
 · exact h.elim
noncomputable def PF (n:Nat):List S->A:=fun av=>match av with
 | [.va (.gs r),.va (.c1 (.vl (.int .i64 _)))]=>iA .i64 (iK n (C.vv r))
 | _=>.gs []
noncomputable def E7 (n:Nat):Fun:=⟨zV n,PF n,fun av h=>by obtain ⟨m,v,_,rfl,_⟩:=lL h; trivial⟩
theorem QB {n:Nat}:∀ av H K,(E7 n).sp av H K->av.length=2:=fun av H K h=>by obtain ⟨m,v,_,rfl,_⟩:=lL h.1.1; rfl
attribute [go_sem] E7 zV PF
theorem L6:∀ n,Meets Tryz.prog 52 (E7 n).sp
 | 0=>⟨by kernel_rfl,by rintro xs vs E ro w K _ _ _ ⟨⟨h,_⟩,_⟩; obtain ⟨m,_,h,_⟩:=lL h; omega⟩
 | n + 1=>by
  refine aF Tryz.func52 aN6 2 (by rw [Tryz.ntmps52]; decide) (aJ (L6 n) (aA _)) QB ?_
  rintro av H K ⟨⟨h,rfl⟩,hK⟩
  obtain ⟨m,v,hm,rfl,hv,hm99⟩:=lL h
  obtain rfl:m=n:=by omega
  have hK:K (iS .i64 (rN m v)) []:=by
   have:(E7 (m + 1)).val [.va (.gs (a8 v)),iS .i64 ((m:Int) - 1)]=iA .i64 (rN m v):=by simp -dsimp only [go_sem,iK]
   rw [this] at hK; exact hK
  clear h hm
  rw [zY] at hK
  unfold IY at hK
  have hll:=hv.ll
  have hlf:=hv.lf
  have bd1:=fun i=>pQ (f:=lZ (iK m) ((m:Int) - 1)) (fun d x h=>HK (pR m) h x) (v.l.take i) 0 ⟨Int.le_refl _,by omega⟩
  have fin:∀ (z:Int) (R:Hp),(bif lM v then 0 else 1 + v.f.foldl (pL (iK m) ((m:Int) - 1)) (v.l.foldl (lZ (iK m) ((m:Int) - 1)) 0))=z->W.Fin 0 K (iS .i64 z) R:=fun z R h=>by
   rw [h] at hK; exact .sel [] (by simp) (by simp) rfl (.done (by simpa [go_sem] using hK))
  clear hK
  cases hsc:lM v with
  | true=>
   have hs':=hsc
   unfold lM at hs'
   simp (maxSteps:=1000000) -dsimp only [go_sem,aS v,R3,VA,hs']
   exact fin _ _ (by rw [hsc]; rfl)
  | false=>
   have hs':=hsc
   unfold lM at hs'
   rw [hsc] at fin
   simp (maxSteps:=1000000) -dsimp only [go_sem,aS v,R3,VA,hs']
   refine aN (α:=Nat) (fun i=>[(1,iS .i64 ((m:Int) - 1)),(2,.va (.c1 (.pt 0 0))),(5,iS .i64 ((v.l.take i).foldl (lZ (iK m) ((m:Int) - 1)) 0)),(31,.va (.c1 (.fz (v.l.map a8)))),(32,iS .i64 v.l.length),(33,iS .i64 i)]) (fun _=>[.cells (bJ v) 32])
    (fun i=>i<=v.l.length) (fun i=>v.l.length - i) 0 1 (Nat.zero_le _) ?_ ?_ ?_
   · simp -dsimp only [go_sem]<;>simp
   · simp -dsimp only [go_sem,bJ]<;>simp
   intro i hi
   rcases bC i v.l.length with hlt | hge
   · have hg:decide ((i:Int) < (v.l.length:Int))=true:=by simp; omega
     obtain ⟨x,hx⟩:∃ t,v.l[i]? = some t:=⟨_,aU hlt⟩
     have q1:=OA hx
     have hxm:=bM hx
     have k1:=fU (hv.l x hxm)
     have k2:=kQ x
     have ft:=DX (f:=lZ (iK m) ((m:Int) - 1)) hx 0
     have hbd:=bd1 i
     generalize hd:(v.l.take i).foldl (lZ (iK m) ((m:Int) - 1)) 0=d at *
     have hgb:=pR m x
     cases hc:decide (d<=(m:Int) - 1) with
     | true=>
      have hm0:0 < m:=by have:=of_decide_eq_true hc; omega
      have he:(m:Int) - 1 - 1=(m:Int) - 2:=by omega
      have hn:m<=100:=by omega
      simp (maxSteps:=1000000) -dsimp only [go_sem,hg,↓q1,bJ,k1,k2,hc,he,hm0,hn]
      refine ⟨by omega,by omega,by omega,aE (i + 1) 1 (by omega) (by omega) ?_ ?_⟩
      · simp -dsimp only [go_sem,ft,lZ,hc]<;>simp
      · simp -dsimp only [go_sem,bJ]<;>simp [bJ]
     | false=>
      simp (maxSteps:=1000000) -dsimp only [go_sem,hg,↓q1,bJ,hc]
      refine ⟨by omega,by omega,aE (i + 1) 1 (by omega) (by omega) ?_ ?_⟩
      · simp -dsimp only [go_sem,ft,lZ,hc]<;>simp
      · simp -dsimp only [go_sem,bJ]<;>simp [bJ]
   · have hg:decide ((i:Int) < (v.l.length:Int))=false:=by simp; omega
     obtain rfl:i=v.l.length:=by omega
     have hbd:=bd1 v.l.length
     rw [List.take_length] at hbd ⊢
     simp (maxSteps:=1000000) -dsimp only [go_sem,hg,bJ]
     generalize v.l.foldl (lZ (iK m) ((m:Int) - 1)) 0=D at *
     have bd2:=fun i=>pQ (f:=pL (iK m) ((m:Int) - 1)) (fun d x h=>QK (pR m) h x) (v.f.take i) D hbd
     clear hi hge hg bd1
     refine aN (α:=Nat) (fun i=>[(1,iS .i64 ((m:Int) - 1)),(2,.va (.c1 (.pt 0 0))),(5,iS .i64 ((v.f.take i).foldl (pL (iK m) ((m:Int) - 1)) D)),(48,.va (.c1 (.fz (v.f.map bW)))),(49,iS .i64 v.f.length),(50,iS .i64 i)]) (fun _=>[.cells (bJ v) 32])
      (fun i=>i<=v.f.length) (fun i=>v.f.length - i) 0 1 (Nat.zero_le _) ?_ ?_ ?_
     · simp -dsimp only [go_sem]<;>simp
     · simp -dsimp only [go_sem,bJ]<;>simp
     intro i hi
     rcases bC i v.f.length with hlt | hge
     · have hg:decide ((i:Int) < (v.f.length:Int))=true:=by simp; omega
       obtain ⟨x,hx⟩:∃ t,v.f[i]? = some t:=⟨_,aU hlt⟩
       have q1:=t6 hx
       have hxm:=bM hx
       have k1:=fU (hv.f x hxm)
       have k2:=kQ x.2
       have ft:=DX (f:=pL (iK m) ((m:Int) - 1)) hx D
       have hbd2:=bd2 i
       generalize hd:(v.f.take i).foldl (pL (iK m) ((m:Int) - 1)) D=d at *
       have hgb:=pR m x.2
       cases hc:decide (d<=(m:Int) - 1) with
       | true=>
        have hm0:0 < m:=by have:=of_decide_eq_true hc; omega
        have he:(m:Int) - 1 - 1=(m:Int) - 2:=by omega
        have hn:m<=100:=by omega
        simp (maxSteps:=1000000) -dsimp only [go_sem,hg,↓q1,bJ,k1,k2,hc,he,hm0,hn]
        refine ⟨by omega,by omega,by omega,aE (i + 1) 1 (by omega) (by omega) ?_ ?_⟩
        · simp -dsimp only [go_sem,ft,pL,hc]<;>simp
        · simp -dsimp only [go_sem,bJ]<;>simp [bJ]
       | false=>
        simp (maxSteps:=1000000) -dsimp only [go_sem,hg,↓q1,bJ,hc]
        refine ⟨by omega,by omega,aE (i + 1) 1 (by omega) (by omega) ?_ ?_⟩
        · simp -dsimp only [go_sem,ft,pL,hc]<;>simp
        · simp -dsimp only [go_sem,bJ]<;>simp [bJ]
     · have hg:decide ((i:Int) < (v.f.length:Int))=false:=by simp; omega
       obtain rfl:i=v.f.length:=by omega
       have hbd2:=bd2 v.f.length
       rw [List.take_length] at hbd2 ⊢
       simp (maxSteps:=1000000) -dsimp only [go_sem,hg,bJ]
       exact ⟨by omega,fin _ _ rfl⟩
theorem x6:∀ N,Meets Tryz.prog 90 (B8 N).sp
 | 0=>⟨by kernel_rfl,by rintro xs vs E ro w K _ _ _ ⟨⟨h,_⟩,_⟩; obtain ⟨_,a,_,_,_,h⟩:=iU h; have:=a.h_pos; omega⟩
 | N + 1=>by
  refine aF Tryz.func90 aM1 2 (by rw [Tryz.ntmps90]; decide) (aJ (x6 N) (aB nM (aB zX (aA _)))) FO ?_
  rintro av H K ⟨⟨h,rfl⟩,hK⟩
  obtain ⟨sc,t,rfl,hs,ht,hh⟩:=iU h
  have hK:K (bS (valF sc.ss sc.es t)) []:=by
   have:(B8 (N + 1)).val [.va (.gs (aC sc)),.va (.gs (aL t))]=bA (valF sc.ss sc.es t):=by simp -dsimp only [go_sem]
   rw [this] at hK; exact hK
  clear h
  have fin:∀ (b:Bool) (R:Hp),valF sc.ss sc.es t=b->W.Fin 0 K (bS b) R:=fun b R h=>by
   rw [h] at hK
   exact .sel [] (by simp) (by simp) rfl (.done (by simp -dsimp only [go_sem]; simpa using hK))
  clear hK
  cases t with
  | mk k s n e=>
  have hF:=valF.eq_1 sc.ss sc.es k s n e
  simp (maxSteps:=1000000) -dsimp only [go_sem,aC,aL,aT,aCU,aCF]
  refine ⟨fun k1=>fin _ _ (by rw [hF,k1]; simp only [aI]; ac_rfl),fun k1=>aD rfl (.done ?_)⟩
  rw [k1,aG] at hF
  simp (maxSteps:=1000000) -dsimp only [go_sem,GY]
  refine ⟨fun k2=>aD rfl (.done ?_),fun k2=>aD rfl (.done ?_)⟩
  · rw [k2,aI] at hF
    have hF':valF sc.ss sc.es (.mk k s n e)=((bl n == [] && (e.length:Int) == 0) && (s == 8 || s == 16 || s == 32 || s == 64)):=by rw [hF]; ac_rfl
    clear hF
    cases hp:(bl n == [] && (e.length:Int) == 0) with
    | false=>
     simp (maxSteps:=1000000) -dsimp only [go_sem,nS]
     exact fin _ _ (by rw [hF',hp]; rfl)
    | true=>
     rw [hp,Bool.true_and] at hF'
     cases h8:s == 8 with
     | true=>
      simp (maxSteps:=1000000) -dsimp only [go_sem,nS,h8]
      exact fin _ _ (by rw [hF',h8]; rfl)
     | false=>
     cases h16:s == 16 with
     | true=>
      simp (maxSteps:=1000000) -dsimp only [go_sem,nS,h8,h16]
      exact fin _ _ (by rw [hF',h8,h16]; rfl)
     | false=>
     cases h32:s == 32 with
     | true=>
      simp (maxSteps:=1000000) -dsimp only [go_sem,nS,h8,h16,h32]
      exact fin _ _ (by rw [hF',h8,h16,h32]; rfl)
     | false=>
      simp (maxSteps:=1000000) -dsimp only [go_sem,nS,h8,h16,h32]
      exact fin _ _ (by rw [hF',h8,h16,h32]; rfl)
  rw [k2,aG] at hF
  simp (maxSteps:=1000000) -dsimp only [go_sem,HI]
  refine ⟨fun k3=>aD rfl (.done ?_),fun k3=>aD rfl (.done ?_)⟩
  · rw [k3] at hF
    simp only [aI,Bool.and_false,Bool.or_false] at hF
    have hF':valF sc.ss sc.es (.mk k s n e)=((bl n == [] && (e.length:Int) == 0) && (s == 8 || s == 16 || s == 32)):=by rw [hF]; ac_rfl
    clear hF
    cases hp:(bl n == [] && (e.length:Int) == 0) with
    | false=>
     simp (maxSteps:=1000000) -dsimp only [go_sem,pS]
     exact fin _ _ (by rw [hF',hp]; rfl)
    | true=>
     rw [hp,Bool.true_and] at hF'
     cases h8:s == 8 with
     | true=>
      simp (maxSteps:=1000000) -dsimp only [go_sem,pS,h8]
      exact fin _ _ (by rw [hF',h8]; rfl)
     | false=>
     cases h16:s == 16 with
     | true=>
      simp (maxSteps:=1000000) -dsimp only [go_sem,pS,h8,h16]
      exact fin _ _ (by rw [hF',h8,h16]; rfl)
     | false=>
      simp (maxSteps:=1000000) -dsimp only [go_sem,pS,h8,h16]
      exact fin _ _ (by rw [hF',h8,h16]; rfl)
  rw [k3,aG] at hF
  simp (maxSteps:=1000000) -dsimp only [go_sem,GF]
  refine ⟨fun k4=>fin _ _ (by rw [hF,k4]; simp only [aI]; ac_rfl),fun k4=>aD rfl (.done ?_)⟩
  rw [k4,aG] at hF
  simp (maxSteps:=1000000) -dsimp only [go_sem,CI]
  refine ⟨fun k5=>aD rfl (.done ?_),fun k5=>aD rfl (.done ?_)⟩
  · rw [k5,aI] at hF
    have no:∀ {R:Hp},(bl n == [])=false\/decide (1<=s)=false\/decide (s<=32)=false\/((e.length:Int) == 1)=false->W.Fin 0 K (bS false) R:=fun h=>fin _ _ (by
     rw [hF]
     rcases h with h | h | h | h
     · rw [h,Bool.and_false,Bool.false_and]
     · rw [h,Bool.false_and,Bool.false_and,Bool.false_and]
     · rw [h,Bool.and_false,Bool.false_and,Bool.false_and]
     · match e,h with
       | [],_=>simp [mE]
       | [u],h=>simp at h
       | u :: v :: r,_=>simp [mE])
    cases h1:bl n == [] with
    | false=>
     simp (maxSteps:=1000000) -dsimp only [go_sem,lG,h1]
     exact no (.inl h1)
    | true=>
    cases h2:decide (1<=s) with
    | false=>
     simp (maxSteps:=1000000) -dsimp only [go_sem,lG,h1,h2]
     exact no (.inr (.inl h2))
    | true=>
    cases h3:decide (s<=32) with
    | false=>
     simp (maxSteps:=1000000) -dsimp only [go_sem,lG,h1,h2,h3]
     exact no (.inr (.inr (.inl h3)))
    | true=>
    cases h4:(e.length:Int) == 1 with
    | false=>
     simp (maxSteps:=1000000) -dsimp only [go_sem,lG,h1,h2,h3,h4]
     exact no (.inr (.inr (.inr h4)))
    | true=>
     have hl1:(e.length:Int)=1:=by simpa using h4
     obtain ⟨u,rfl⟩:∃ u,e=[u]:=List.length_eq_one_iff.1 (by omega)
     have hF':valF sc.ss sc.es (.mk k s n [u])=valF sc.ss sc.es u:=by rw [hF,h1,h2,h3]; simp [mE]
     have hu2:u.h<=N:=by rw [Ty.h,Ty.hs,Ty.hs] at hh; omega
     have hu:eW (aL u):=dS (ht.e u (by simp [Ty.e]))
     have hsf:=fK hs
     rw [aC] at hsf
     have hsd:=fV sc
     rw [aC] at hsd
     have h4':(((1:Nat):Int) == 1)=true:=rfl
     simp (maxSteps:=1000000) -dsimp only [go_sem,lG,h1,h2,h3,h4']
     refine ⟨⟨by omega,fun r hr=>by subst hr; exact gZ u⟩,fun r hr=>?_⟩
     subst hr
     simp (maxSteps:=1000000) -dsimp only [go_sem,hsf,hsd,hu,gZ]
     exact ⟨hu2,fin _ _ hF'⟩
  rw [k5,aG] at hF
  simp (maxSteps:=1000000) -dsimp only [go_sem,BI]
  refine ⟨fun k6=>aD rfl (.done ?_),fun k6=>aD rfl (.done ?_)⟩
  · rw [k6,aI] at hF
    simp (maxSteps:=1000000) -dsimp only [go_sem,BY]
    refine kZ hs ?_
    simp (maxSteps:=1000000) -dsimp only [go_sem,aP]
    refine aD rfl (.done ?_)
    cases h1:fQ sc.ss n<;>cases h2:s == 0 <;>
    · simp (maxSteps:=1000000) -dsimp only [go_sem,CC,h2]
      exact fin _ _ (by rw [hF,h1,h2]; rfl)
  rw [k6,aG] at hF
  simp (maxSteps:=1000000) -dsimp only [go_sem,CG]
  refine ⟨fun k7=>aD rfl (.done ?_),fun k7=>fin _ _ (by rw [hF,k7]; rfl)⟩
  rw [k7,aI] at hF
  simp (maxSteps:=1000000) -dsimp only [go_sem,A6]
  refine m5 hs ?_
  simp (maxSteps:=1000000) -dsimp only [go_sem,bI]
  refine aD rfl (.done ?_)
  cases h1:fO sc.es n<;>cases h2:s == 0 <;>
  · simp (maxSteps:=1000000) -dsimp only [go_sem,BA,h2]
    exact fin _ _ (by rw [hF,h1,h2]; rfl)
theorem vS:Meets Tryz.prog 90 r0Fn.sp:=eJ 0 x6 fun av H K ⟨⟨h,e⟩,hK⟩=>by
 obtain ⟨a,b,rfl,ha,hb⟩:=qK h
 exact ⟨b.h,⟨⟨⟨fK ha,dS hb,by rw [fG]; exact Nat.le_refl _⟩,e⟩,hK⟩⟩
def rL (s:Sc) (t:Ty) (n:Int):Bool:=
 bif t.k == 1 then n == 0 || n == 1
 else bif t.k == 2 then t.s == 64 || (decide (-(2 ^ (t.s.toNat - 1):Int)<=n) && decide (n < (2 ^ (t.s.toNat - 1):Int)))
 else bif t.k == 3 then decide (0<=n) && decide (n < (2 ^ t.s.toNat:Int))
 else bif t.k == 7 then ((fA s.es t.n).getD default).vs.any fun x=>x == n else false
def mN (s:Sc) (t:Ty) (n:Int) (str:ByteArray) (ll lf:Int):Int:=bif !(bl str == []) || decide (0 < ll) || decide (0 < lf) then 13 else bif rL s t n then 0 else 4
def mB (t:Ty) (n:Int) (str:ByteArray) (ll lf:Int):Int:=bif n != 0 || decide (0 < ll) || decide (0 < lf) then 13 else bif decide (t.s < ((bl str).length:Int)) then 3 else 0
def LL:Option Int->Int->Bool
 | none,_=>true
 | some q,n=>decide (q < n)
def ftA (fs:List Fl):Option Int->List (Int × Vl)->Bool
 | _,[]=>true
 | p,x :: r=>(fF fs x.1).isSome && LL p x.1 && ftA fs (some x.1) r
theorem jR (fs:List Fl) (p:Option Int) (x:Int × Vl) (r:List (Int × Vl)):ftA fs p (x :: r)=((fF fs x.1).isSome && LL p x.1 && ftA fs (some x.1) r):=by rw [ftA.eq_def]
theorem KH (fs:List Fl) (p:Option Int):ftA fs p []=true:=by rw [ftA.eq_def]
def p6 (l:List (Int × Vl)) (n:Int):Bool:=l.any fun y=>y.1 == n
def c8 (fs:List Fl) (l:List (Int × Vl)):Bool:=ftA fs none l && fs.all fun f=>f.opt || p6 l f.num
mutual
def dZ (s:Sc) (t:Ty):Vl->Int
 | .mk k n str l f=>
  bif !(valF s.ss s.es t) || k != t.k then 13
  else bif t.k == 4 then mB t n str l.length f.length
  else bif t.k == 5 then (bif n != 0 || !(bl str == []) || decide (0 < (f.length:Int)) then 13 else bif decide (t.s < (l.length:Int)) then 3 else j8 s (t.e.headD default) l)
  else bif t.k == 6 then (bif n != 0 || !(bl str == []) || decide (0 < (l.length:Int)) || !(c8 ((fS s.ss t.n).getD default).fs f) then 13 else jL s ((fS s.ss t.n).getD default).fs f)
  else mN s t n str l.length f.length
def j8 (s:Sc) (t:Ty):List Vl->Int
 | []=>0
 | v :: r=>bif dZ s t v != 0 then dZ s t v else j8 s t r
def jL (s:Sc) (fs:List Fl):List (Int × Vl)->Int
 | []=>0
 | (i,v) :: r=>bif dZ s ((fF fs i).getD default).ty v != 0 then dZ s ((fF fs i).getD default).ty v else jL s fs r
end
theorem rO (s:Sc) (t:Ty) (v:Vl):dZ s t v=bif !(valF s.ss s.es t) || v.k != t.k then 13
 else bif t.k == 4 then mB t v.n v.s v.l.length v.f.length
 else bif t.k == 5 then (bif v.n != 0 || !(bl v.s == []) || decide (0 < (v.f.length:Int)) then 13 else bif decide (t.s < (v.l.length:Int)) then 3 else j8 s (t.e.headD default) v.l)
 else bif t.k == 6 then (bif v.n != 0 || !(bl v.s == []) || decide (0 < (v.l.length:Int)) || !(c8 ((fS s.ss t.n).getD default).fs v.f) then 13 else jL s ((fS s.ss t.n).getD default).fs v.f)
 else mN s t v.n v.s v.l.length v.f.length:=by cases v; rw [dZ]; rfl
theorem vX (s:Sc) (fs:List Fl) (x:Int × Vl) (r:List (Int × Vl)):jL s fs (x :: r)=bif dZ s ((fF fs x.1).getD default).ty x.2 != 0 then dZ s ((fF fs x.1).getD default).ty x.2 else jL s fs r:=by cases x; rw [jL]
abbrev PS:S:=.va (.c1 (.fn 118 [(false,[.pt 0 0])]))
def aD1:W.Spec:=fun av H K=>∃ (x:Int) (v:Vl),av=[iS .i64 x,.va (.c1 (.pt 0 0))]/\H=[.cells (bJ v) 32]/\K (bS (x == v.n)) [.cells (bJ v) 32]
theorem aDH {x:Int} {v:Vl} {K:S->Hp->Prop} (hK:K (bS (x == v.n)) [.cells (bJ v) 32]):aD1 [iS .i64 x,.va (.c1 (.pt 0 0))] [.cells (bJ v) 32] K:=⟨x,v,rfl,rfl,hK⟩
theorem UA:Meets Tryz.prog 118 aD1:=by
 refine aF Tryz.func118 aHP 2 (by rw [Tryz.ntmps118]; decide) (aA _) (fun av H K h=>by obtain ⟨_,_,rfl,_⟩:=h; rfl) ?_
 rintro av H K ⟨x,v,rfl,rfl,hK⟩
 simp -dsimp only [go_sem,bJ,VS,XU]
 exact .sel [0] (by simp) (by simp) rfl (.done (by simpa [go_sem,bJ] using hK))
def y6 (p:Int->Bool):List Int->Nat->Int
 | [],_=>-1
 | x :: l,i=>bif p x then (i:Int) else y6 p l (i + 1)
theorem KM (p:Int->Bool):∀ (l:List Int) (i:Nat),decide (0<=y6 p l i)=l.any p
 | [],_=>rfl
 | x :: l,i=>by
  rw [List.any_cons,y6]
  cases h:p x
  · rw [aG,KM p l (i + 1),Bool.false_or]
  · simp
def aCX:W.Spec:=fun av H K=>∃ (l:List Int) (v:Vl),av=[.va (.c1 (.fz (l.map cL))),PS]/\H=[.cells (bJ v) 32]/\l.length<=9223372036854775807/\K (iS .i64 (y6 (fun x=>x == v.n) l 0)) [.cells (bJ v) 32]
theorem aDE {l:List Int} {v:Vl} {K:S->Hp->Prop} (h:l.length<=9223372036854775807) (hK:K (iS .i64 (y6 (fun x=>x == v.n) l 0)) [.cells (bJ v) 32]):aCX [.va (.c1 (.fz (l.map cL))),PS] [.cells (bJ v) 32] K:=⟨l,v,rfl,rfl,h,hK⟩
theorem aAM:Meets Tryz.prog 140 aCX:=by
 refine aF Tryz.func140 aGR 2 (by rw [Tryz.ntmps140]; decide) (aB UA (aA _)) (fun av H K h=>by obtain ⟨_,_,rfl,_⟩:=h; rfl) ?_
 rintro av H K ⟨l,v,rfl,rfl,hl,hK⟩
 simp -dsimp only [go_sem,VJ,VZ]
 refine aN (α:=Nat) (fun i=>[(0,.va (.c1 (.fz (l.map cL)))),(1,PS),(7,iS .i64 l.length),(8,iS .i64 i)]) (fun _=>[.cells (bJ v) 32])
  (fun i=>i<=l.length/\y6 (fun x=>x == v.n) (l.drop i) i=y6 (fun x=>x == v.n) l 0) (fun i=>l.length - i) 0 1 ⟨Nat.zero_le _,rfl⟩ ?_ ?_ ?_
 · simp -dsimp only [go_sem]<;>simp
 · simp -dsimp only [go_sem,bJ]<;>simp
 rintro i ⟨hi,ho⟩
 rcases bC i l.length with hlt | hge
 · have hg:decide ((i:Int) < (l.length:Int))=true:=by simp; omega
   have hx:l[i]? = some l[i]:=aU hlt
   have q2:=aV (row:=cL) hx
   rw [List.drop_eq_getElem_cons hlt,y6] at ho
   generalize l[i]=y at *
   simp -dsimp only [go_sem,hg,↓q2]
   refine ⟨by omega,aDH ?_⟩
   cases hc:y == v.n with
   | true=>
    rw [hc,aI] at ho
    simp -dsimp only [go_sem]
    exact .sel [0] (by simp) (by simp) rfl (.done (by simpa [go_sem,bJ,ho] using hK))
   | false=>
    rw [hc,aG] at ho
    simp -dsimp only [go_sem]
    refine ⟨by omega,aE (i + 1) 1 ⟨by omega,ho⟩ (by omega) ?_ ?_⟩
    · simp -dsimp only [go_sem]<;>simp
    · simp -dsimp only [go_sem,bJ]<;>simp [bJ]
 · have hg:decide ((i:Int) < (l.length:Int))=false:=by simp; omega
   have:l.drop i=[]:=List.drop_eq_nil_iff.2 (by omega)
   rw [this] at ho
   simp -dsimp only [go_sem,hg]
   exact .sel [0] (by simp) (by simp) rfl (.done (by rw [show y6 (fun x=>x == v.n) l 0=-1 from ho.symm] at hK; simpa [go_sem,bJ] using hK))
def aCQ:W.Spec:=fun av H K=>∃ (l:List Int) (v:Vl),av=[.va (.c1 (.fz (l.map cL))),PS]/\H=[.cells (bJ v) 32]/\l.length<=9223372036854775807/\K (bS (l.any fun x=>x == v.n)) [.cells (bJ v) 32]
theorem aC6 {l:List Int} {v:Vl} {K:S->Hp->Prop} (h:l.length<=9223372036854775807) (hK:K (bS (l.any fun x=>x == v.n)) [.cells (bJ v) 32]):aCQ [.va (.c1 (.fz (l.map cL))),PS] [.cells (bJ v) 32] K:=⟨l,v,rfl,rfl,h,hK⟩
theorem N9:Meets Tryz.prog 117 aCQ:=by
 refine aF Tryz.func117 aHV 2 (by rw [Tryz.ntmps117]; decide) (aB aAM (aA _)) (fun av H K h=>by obtain ⟨_,_,rfl,_⟩:=h; rfl) ?_
 rintro av H K ⟨l,v,rfl,rfl,hl,hK⟩
 simp -dsimp only [go_sem,bJ,XQ,VY]
 refine aDE hl ?_
 simp -dsimp only [go_sem,bJ,KM]
 exact .sel [0] (by simp) (by simp) rfl (.done (by simpa [go_sem,bJ] using hK))
abbrev O6:S:=.va (.c1 (.fn 142 [(false,[.pt 0 0])]))
def veX (x:Int × Vl):List C:=[.vl (.int .i64 x.1),.vl (.int .i64 x.2.k),.vl (.int .i64 x.2.n),.vl (.string x.2.s),.fz (x.2.l.map a8),.fz (x.2.f.map bW)]
def XS:W.Spec:=fun av H K=>∃ (x:Int × Vl) (f:Fl),av=[.va (.gs (veX x)),.va (.c1 (.pt 0 0))]/\H=[.cells (aW f) 97]/\K (bS (x.1 == f.num)) [.cells (aW f) 97]
theorem aAD {x:Int × Vl} {f:Fl} {K:S->Hp->Prop} (hK:K (bS (x.1 == f.num)) [.cells (aW f) 97]):XS [.va (.gs (veX x)),.va (.c1 (.pt 0 0))] [.cells (aW f) 97] K:=⟨x,f,rfl,rfl,hK⟩
theorem aFT:Meets Tryz.prog 142 XS:=by
 refine aF Tryz.func142 aHA 2 (by rw [Tryz.ntmps142]; decide) (aA _) (fun av H K h=>by obtain ⟨_,_,rfl,_⟩:=h; rfl) ?_
 rintro av H K ⟨x,f,rfl,rfl,hK⟩
 simp -dsimp only [go_sem,veX,aW,Y2,X2]
 exact .sel [0] (by simp) (by simp) rfl (.done (by simpa [go_sem,aW] using hK))
def z6 (n:Int):List (Int × Vl)->Nat->Int
 | [],_=>-1
 | x :: l,i=>bif x.1 == n then (i:Int) else z6 n l (i + 1)
theorem J3 (n:Int):∀ (l:List (Int × Vl)) (i:Nat),decide (0<=z6 n l i)=p6 l n
 | [],_=>rfl
 | x :: l,i=>by
  rw [p6,List.any_cons,z6]
  cases h:x.1 == n
  · rw [aG,J3 n l (i + 1),Bool.false_or]; rfl
  · simp
def aFF:W.Spec:=fun av H K=>∃ (l:List (Int × Vl)) (f:Fl),av=[.va (.c1 (.fz (l.map bW))),O6]/\H=[.cells (aW f) 97]/\l.length<=9223372036854775807/\K (iS .i64 (z6 f.num l 0)) [.cells (aW f) 97]
theorem aCA {l:List (Int × Vl)} {f:Fl} {K:S->Hp->Prop} (h:l.length<=9223372036854775807) (hK:K (iS .i64 (z6 f.num l 0)) [.cells (aW f) 97]):aFF [.va (.c1 (.fz (l.map bW))),O6] [.cells (aW f) 97] K:=⟨l,f,rfl,rfl,h,hK⟩
theorem aAT:Meets Tryz.prog 157 aFF:=by
 refine aF Tryz.func157 aI2 2 (by rw [Tryz.ntmps157]; decide) (aB aFT (aA _)) (fun av H K h=>by obtain ⟨_,_,rfl,_⟩:=h; rfl) ?_
 rintro av H K ⟨l,f,rfl,rfl,hl,hK⟩
 simp -dsimp only [go_sem,VM,YB]
 refine aN (α:=Nat) (fun i=>[(0,.va (.c1 (.fz (l.map bW)))),(1,O6),(7,iS .i64 l.length),(8,iS .i64 i)]) (fun _=>[.cells (aW f) 97])
  (fun i=>i<=l.length/\z6 f.num (l.drop i) i=z6 f.num l 0) (fun i=>l.length - i) 0 1 ⟨Nat.zero_le _,rfl⟩ ?_ ?_ ?_
 · simp -dsimp only [go_sem]<;>simp
 · simp -dsimp only [go_sem,aW]<;>simp
 rintro i ⟨hi,ho⟩
 rcases bC i l.length with hlt | hge
 · have hg:decide ((i:Int) < (l.length:Int))=true:=by simp; omega
   have hx:l[i]? = some l[i]:=aU hlt
   have q2:=t6 hx
   rw [List.drop_eq_getElem_cons hlt,z6] at ho
   generalize l[i]=y at *
   simp -dsimp only [go_sem,hg,↓q2]
   refine ⟨by omega,aAD ?_⟩
   cases hc:y.1 == f.num with
   | true=>
    rw [hc,aI] at ho
    simp -dsimp only [go_sem]
    exact .sel [0] (by simp) (by simp) rfl (.done (by simpa [go_sem,aW,ho] using hK))
   | false=>
    rw [hc,aG] at ho
    simp -dsimp only [go_sem]
    refine ⟨by omega,aE (i + 1) 1 ⟨by omega,ho⟩ (by omega) ?_ ?_⟩
    · simp -dsimp only [go_sem]<;>simp
    · simp -dsimp only [go_sem,aW]<;>simp [aW]
 · have hg:decide ((i:Int) < (l.length:Int))=false:=by simp; omega
   have:l.drop i=[]:=List.drop_eq_nil_iff.2 (by omega)
   rw [this] at ho
   simp -dsimp only [go_sem,hg]
   exact .sel [0] (by simp) (by simp) rfl (.done (by rw [show z6 f.num l 0=-1 from ho.symm] at hK; simpa [go_sem,aW] using hK))
def aCN:W.Spec:=fun av H K=>∃ (l:List (Int × Vl)) (f:Fl),av=[.va (.c1 (.fz (l.map bW))),O6]/\H=[.cells (aW f) 97]/\l.length<=9223372036854775807/\K (bS (p6 l f.num)) [.cells (aW f) 97]
theorem aEM {l:List (Int × Vl)} {f:Fl} {K:S->Hp->Prop} (h:l.length<=9223372036854775807) (hK:K (bS (p6 l f.num)) [.cells (aW f) 97]):aCN [.va (.c1 (.fz (l.map bW))),O6] [.cells (aW f) 97] K:=⟨l,f,rfl,rfl,h,hK⟩
theorem OE:Meets Tryz.prog 141 aCN:=by
 refine aF Tryz.func141 aGH 2 (by rw [Tryz.ntmps141]; decide) (aB aAT (aA _)) (fun av H K h=>by obtain ⟨_,_,rfl,_⟩:=h; rfl) ?_
 rintro av H K ⟨l,f,rfl,rfl,hl,hK⟩
 simp -dsimp only [go_sem,aW,XB,XC]
 refine aCA hl ?_
 simp -dsimp only [go_sem,aW,J3]
 exact .sel [0] (by simp) (by simp) rfl (.done (by simpa [go_sem,aW] using hK))
def EU (P:Sc->Ty->Vl->Prop):List S->Prop:=fun av=>match av with
 | [.va (.gs r),.va (.gs q),.va (.gs p)]=>kK r/\eW q/\s3 p/\P (C.sc r) (C.ty q) (C.vv p)
 | _=>False
theorem rD {P:Sc->Ty->Vl->Prop} {av:List S} (h:EU P av):∃ s t v,av=[.va (.gs (aC s)),.va (.gs (aL t)),.va (.gs (a8 v))]/\s.fit/\TyOk t/\VlOk v/\P s t v:=by
 unfold EU at h
 split at h
 · obtain ⟨⟨s,rfl,hs⟩,⟨t,rfl,ht⟩,⟨v,rfl,hv⟩,h⟩:=h
   rw [fV,fG,sV] at h
   exact ⟨s,t,v,rfl,hs,ht,hv,h⟩
 · exact h.elim
noncomputable def W6 (f:Sc->Ty->Vl->Value):List S->A:=fun av=>match av with
 | [.va (.gs r),.va (.gs q),.va (.gs p)]=>.c1 (.vl (f (C.sc r) (C.ty q) (C.vv p)))
 | _=>.gs []
noncomputable def hS (P:Sc->Ty->Vl->Prop) (f:Sc->Ty->Vl->Value):Fun:=⟨EU P,W6 f,fun av h=>by obtain ⟨_,_,_,rfl,_⟩:=rD h; trivial⟩
theorem lD {P:Sc->Ty->Vl->Prop} {f:Sc->Ty->Vl->Value}:∀ av H K,(hS P f).sp av H K->av.length=3:=fun av H K h=>by obtain ⟨_,_,_,rfl,_⟩:=rD h.1.1; rfl
attribute [go_sem] hS EU W6
theorem iX {P:Sc->Ty->Vl->Prop} {f:Sc->Ty->Vl->Value} {av:List S} {H:Hp} {K:S->Hp->Prop} (h:(hS P f).sp av H K) :
 ∃ s t v,av=[.va (.gs (aC s)),.va (.gs (aL t)),.va (.gs (a8 v))]/\H=[]/\s.fit/\TyOk t/\VlOk v/\P s t v/\K (.va (.c1 (.vl (f s t v)))) []:=by
 obtain ⟨⟨h,rfl⟩,hK⟩:=h
 obtain ⟨s,t,v,rfl,hs,ht,hv,hp⟩:=rD h
 have:(hS P f).val [.va (.gs (aC s)),.va (.gs (aL t)),.va (.gs (a8 v))]=.c1 (.vl (f s t v)):=by simp -dsimp only [go_sem]
 rw [this] at hK
 exact ⟨s,t,v,rfl,rfl,hs,ht,hv,hp,hK⟩
theorem aFX:Meets Tryz.prog 92 (hS (fun _ _ _=>True) fun _ t v=>.int .i64 (mB t v.n v.s v.l.length v.f.length)).sp:=by
 refine aF Tryz.func92 aOG 3 (by rw [Tryz.ntmps92]; decide) (aA _) lD ?_
 intro av H K h
 obtain ⟨s,t,v,rfl,rfl,hs,ht,hv,_,hK⟩:=iX h
 clear h
 have fin:∀ (z:Int) (R:Hp),mB t v.n v.s v.l.length v.f.length=z->W.Fin 0 K (iS .i64 z) R:=fun z R h=>by
  rw [h] at hK; exact .sel [] (by simp) (by simp) rfl (.done (by simpa [go_sem] using hK))
 clear hK
 unfold mB at fin
 cases h1:v.n != 0<;>cases h2:decide (0 < (v.l.length:Int))<;>cases h3:decide (0 < (v.f.length:Int))<;>cases h4:decide (t.s < ((bl v.s).length:Int)) <;>
 · rw [h1,h2,h3,h4] at fin
   simp (maxSteps:=1000000) -dsimp only [go_sem,aC,aM t,aS v,aEY,aB9,h1,h2,h3,h4]
   exact fin _ _ rfl
theorem aMH {ss:List St} {es:List En} {t:Ty} (h:valF ss es t=true) (k:(t.k == 2)=true):t.s=8\/t.s=16\/t.s=32\/t.s=64:=by
 cases t with
 | mk k0 s n e=>
  obtain rfl:k0=2:=by have k:(k0 == 2)=true:=k; simpa using k
  rw [valF] at h
  have:(s == 8 || s == 16 || s == 32 || s == 64)=true:=by
   simp only [show ((2:Int) == 1)=false from rfl,show ((2:Int) == 2)=true from rfl,aI,aG,Bool.and_eq_true] at h
   exact h.1.1
  show s=8\/s=16\/s=32\/s=64
  simp only [Bool.or_eq_true,beq_iff_eq] at this
  omega
theorem aLE {ss:List St} {es:List En} {t:Ty} (h:valF ss es t=true) (k:(t.k == 3)=true):t.s=8\/t.s=16\/t.s=32:=by
 cases t with
 | mk k0 s n e=>
  obtain rfl:k0=3:=by have k:(k0 == 3)=true:=k; simpa using k
  rw [valF] at h
  have:(s == 8 || s == 16 || s == 32)=true:=by
   simp only [show ((3:Int) == 1)=false from rfl,show ((3:Int) == 2)=false from rfl,show ((3:Int) == 3)=true from rfl,aI,aG,Bool.and_eq_true,Bool.and_false,Bool.or_false] at h
   exact h.1.1
  show s=8\/s=16\/s=32
  simp only [Bool.or_eq_true,beq_iff_eq] at this
  omega
theorem T6:Meets Tryz.prog 91 (hS (fun s t _=>valF s.ss s.es t=true) fun s t v=>.int .i64 (mN s t v.n v.s v.l.length v.f.length)).sp:=by
 refine aF Tryz.func91 aLU 3 (by rw [Tryz.ntmps91]; decide) (aB zX (aB N9 (aA _))) lD ?_
 intro av H K h
 obtain ⟨s,t,v,rfl,rfl,hs,ht,hv,hp,hK⟩:=iX h
 clear h
 have fin:∀ (z:Int) (R:Hp),mN s t v.n v.s v.l.length v.f.length=z->W.Fin 0 K (iS .i64 z) R:=fun z R h=>by
  rw [h] at hK; exact .sel [] (by simp) (by simp) rfl (.done (by simpa [go_sem] using hK))
 clear hK
 unfold mN at fin
 cases h1:bl v.s == [] with
 | false=>
  rw [h1] at fin
  simp (maxSteps:=1000000) -dsimp only [go_sem,aC,aM t,aS v,GE,IA,h1]
  exact fin _ _ rfl
 | true=>
 cases h2:decide (0 < (v.l.length:Int)) with
 | true=>
  rw [h1,h2] at fin
  simp (maxSteps:=1000000) -dsimp only [go_sem,aC,aM t,aS v,GE,IA,h1,h2]
  exact fin _ _ rfl
 | false=>
 cases h3:decide (0 < (v.f.length:Int)) with
 | true=>
  rw [h1,h2,h3] at fin
  simp (maxSteps:=1000000) -dsimp only [go_sem,aC,aM t,aS v,GE,IA,h1,h2,h3]
  exact fin _ _ rfl
 | false=>
 rw [h1,h2,h3] at fin
 simp only [Bool.not_true,Bool.or_self,aG] at fin
 unfold rL at fin
 simp (maxSteps:=1000000) -dsimp only [go_sem,aC,aM t,aS v,GE,IA,h1,h2,h3]
 refine ⟨fun k1=>aD rfl (.done ?_),fun k1=>aD rfl (.done ?_)⟩
 · rw [k1,aI] at fin
   simp (maxSteps:=1000000) -dsimp only [go_sem,GG]
   refine aD rfl (.done ?_)
   cases h4:(v.n == 0 || v.n == 1) <;>
   · rw [h4] at fin
     simp (maxSteps:=1000000) -dsimp only [go_sem,jX]
     exact fin _ _ rfl
 rw [k1,aG] at fin
 simp (maxSteps:=1000000) -dsimp only [go_sem,JF]
 refine ⟨fun k2=>aD rfl (.done ?_),fun k2=>aD rfl (.done ?_)⟩
 · rw [k2,aI] at fin
   cases h64:t.s == 64 with
   | true=>
    rw [h64] at fin
    simp (maxSteps:=1000000) -dsimp only [go_sem,zD,h64,Bool.false_and]
    refine aD rfl (.done ?_)
    simp (maxSteps:=1000000) -dsimp only [go_sem,jX]
    exact fin _ _ rfl
   | false=>
    rw [h64,Bool.false_or] at fin
    obtain ⟨b1,b2,e1,e2⟩:8<=t.s/\t.s<=32/\IntKind.i64.wrap (-1 * 2 ^ min (t.s - 1).toNat 64)=-(2 ^ (t.s.toNat - 1):Int)/\IntKind.i64.wrap (1 * 2 ^ min (t.s - 1).toNat 64)=(2 ^ (t.s.toNat - 1):Int):=by
     rcases aMH hp k2 with hz | hz | hz | hz
     · rw [hz]; decide
     · rw [hz]; decide
     · rw [hz]; decide
     · rw [hz] at h64; simp at h64
    have f1:(0<=t.s - 1)=True:=eq_true (by omega)
    have f2:(-9223372036854775808<=t.s - 1)=True:=eq_true (by omega)
    have f3:(t.s - 1<=9223372036854775807)=True:=eq_true (by omega)
    generalize (2 ^ (t.s.toNat - 1):Int)=hi at *
    cases h4:decide (-hi<=v.n)<;>cases h5:decide (v.n < hi) <;>
    · rw [h4,h5] at fin
      simp (maxSteps:=1000000) -dsimp only [go_sem,zD,h64,e1,e2,h4,h5,f1,f2,f3]
      refine aD rfl (.done ?_)
      simp (maxSteps:=1000000) -dsimp only [go_sem,jX]
      exact fin _ _ rfl
 rw [k2,aG] at fin
 simp (maxSteps:=1000000) -dsimp only [go_sem,GJ]
 refine ⟨fun k3=>aD rfl (.done ?_),fun k3=>aD rfl (.done ?_)⟩
 · rw [k3,aI] at fin
   obtain ⟨b1,e1⟩:0<=t.s/\IntKind.i64.wrap (1 * 2 ^ min t.s.toNat 64)=(2 ^ t.s.toNat:Int):=by
    rcases aLE hp k3 with hz | hz | hz
    · rw [hz]; decide
    · rw [hz]; decide
    · rw [hz]; decide
   generalize (2 ^ t.s.toNat:Int)=hi at *
   cases h4:decide (0<=v.n)<;>cases h5:decide (v.n < hi) <;>
   · rw [h4,h5] at fin
     simp (maxSteps:=1000000) -dsimp only [go_sem,B7,e1,h4,h5,b1]
     refine aD rfl (.done ?_)
     simp (maxSteps:=1000000) -dsimp only [go_sem,jX]
     exact fin _ _ rfl
 rw [k3,aG] at fin
 simp (maxSteps:=1000000) -dsimp only [go_sem,BE]
 refine ⟨fun k7=>aD rfl (.done ?_),fun k7=>aD rfl (.done ?_)⟩
 · rw [k7,aI] at fin
   simp (maxSteps:=1000000) -dsimp only [go_sem,CD]
   refine m5 (s:=s) hs ?_
   generalize hu:(fA s.es t.n).getD default=u at *
   have hul:u.vs.length<=9223372036854775807:=by
    rw [<-hu]
    cases hf:fA s.es t.n with
    | none=>exact Nat.zero_le _
    | some w=>exact (hs.ok.es w (MG hf).1).lv
   simp (maxSteps:=1000000) -dsimp only [go_sem,bI]
   refine aD rfl (.done ?_)
   simp (maxSteps:=1000000) -dsimp only [go_sem,CL]
   refine aC6 hul ?_
   simp (maxSteps:=1000000) -dsimp only [go_sem,bJ]
   refine aD rfl (.done ?_)
   cases h4:u.vs.any fun x=>x == v.n <;>
   · rw [h4] at fin
     simp (maxSteps:=1000000) -dsimp only [go_sem,jX]
     exact fin _ _ rfl
 rw [k7] at fin
 simp (maxSteps:=1000000) -dsimp only [go_sem,jX]
 exact fin _ _ rfl
theorem J7 {a b:Int × Vl} (h:bW a=bW b):a=b:=by
 obtain ⟨i,x⟩:=a
 obtain ⟨j,y⟩:=b
 obtain ⟨h1,h2⟩:=List.cons.inj h
 have e:i=j:=by simpa using h1
 have e2:x=y:=tQ h2
 rw [e,e2]
instance:Inhabited (Int × Vl):=⟨(0,default)⟩
noncomputable def C.ve:=rG bW
@[go_sem] theorem aR0 (v:Int × Vl):C.ve (bW v)=v:=jK J7 v
@[go_sem] theorem aEF (l:List (Int × Vl)):(l.map bW).map C.ve=l:=lB J7 l
def YC (r:List C):Prop:=∃ u:St,r=aP u/\u.ok/\∀ f ∈ u.fs,TySm f.ty
def aB0 (rs:List (List C)):Prop:=∃ l:List (Int × Vl),rs=l.map bW/\l.length * 88<=140737488355328/\∀ x ∈ l,b5 x.1/\VlOk x.2
theorem ZI {v:Vl} (h:VlOk v):aB0 (v.f.map bW):=⟨v.f,rfl,h.lf,fun x hx=>⟨h.fn x hx,h.f x hx⟩⟩
theorem TC {s:Sc} (hs:s.fit) (n:ByteArray):YC (aP ((fS s.ss n).getD default)):=by
 refine ⟨_,rfl,?_⟩
 cases hf:fS s.ss n with
 | none=>exact ⟨St.ok_default,fun f hf=>(List.not_mem_nil hf).elim⟩
 | some w=>exact ⟨hs.ok.ss w (gE hf).1,(hs.sm w (gE hf).1).2⟩
def yN:List S->Prop:=fun av=>match av with
 | [.va (.gs r),.va (.c1 (.fz rs))]=>YC r/\aB0 rs
 | _=>False
theorem oX {av:List S} (h:yN av):∃ (u:St) (l:List (Int × Vl)),av=[.va (.gs (aP u)),.va (.c1 (.fz (l.map bW)))]/\u.ok/\(∀ f ∈ u.fs,TySm f.ty)/\l.length * 88<=140737488355328/\∀ x ∈ l,b5 x.1/\VlOk x.2:=by
 unfold yN at h
 split at h
 · obtain ⟨⟨u,rfl,h1,h2⟩,⟨l,rfl,h3,h4⟩⟩:=h; exact ⟨u,l,rfl,h1,h2,h3,h4⟩
 · exact h.elim
noncomputable def RE:List S->A:=fun av=>match av with
 | [.va (.gs r),.va (.c1 (.fz rs))]=>bA (c8 (C.st r).fs (rs.map C.ve))
 | _=>.gs []
noncomputable def ftFn1:Fun:=⟨yN,RE,fun av h=>by obtain ⟨_,_,rfl,_⟩:=oX h; trivial⟩
theorem OP:∀ av H K,ftFn1.sp av H K->av.length=2:=fun av H K h=>by obtain ⟨_,_,rfl,_⟩:=oX h.1.1; rfl
attribute [go_sem] ftFn1 yN RE
def QG (l:List (Int × Vl)):Nat->Option Int
 | 0=>none
 | j + 1=>(l[j]?).map (·.1)
theorem QN {l:List (Int × Vl)} {n:Int} {x:Int × Vl} (h:l[n.toNat]? = some x) (p:List C->Prop):(∀ r,(l.map bW)[n.toNat]? = some r->p r)=p [.vl (.int .i64 x.1),.vl (.int .i64 x.2.k),.vl (.int .i64 x.2.n),.vl (.string x.2.s),.fz (x.2.l.map a8),.fz (x.2.f.map bW)]:=by
 rw [<-RS]; exact pF (row:=bW) h p
theorem aDK:Meets Tryz.prog 119 ftFn1.sp:=by
 refine aF Tryz.func119 aI1 2 (by rw [Tryz.ntmps119]; decide) (aB rU (aB OE (aA _))) OP ?_
 rintro av H K ⟨⟨h,rfl⟩,hK⟩
 obtain ⟨u,l,rfl,hu,hus,hl,hlo⟩:=oX h
 replace hK:K (bS (c8 u.fs l)) []:=by
  have:ftFn1.val [.va (.gs (aP u)),.va (.c1 (.fz (l.map bW)))]=bA (c8 u.fs l):=by simp -dsimp only [go_sem]
  rw [this] at hK; exact hK
 clear h
 have fin:∀ (b:Bool) (R:Hp),c8 u.fs l=b->W.Fin 0 K (bS b) R:=fun b R h=>by
  rw [h] at hK; exact .sel [] (by simp) (by simp) rfl (.done (by simpa [go_sem] using hK))
 clear hK
 have hfl:=hu.len
 generalize hR:u.fs.all (fun f=>f.opt || p6 l f.num)=R2
 have hF:c8 u.fs l=(ftA u.fs none l && R2):=by rw [<-hR]; rfl
 rw [hF] at fin
 generalize hR0:(ftA u.fs none l && R2)=R0 at fin
 clear hF
 simp (maxSteps:=1000000) -dsimp only [go_sem,aP,YL,X6]
 refine aN (α:=Nat) (fun i=>[(1,.va (.c1 (.fz (l.map bW)))),(2,.va (.c1 (.pt 0 0))),(11,.va (.c1 (.fz (l.map bW)))),(12,iS .i64 l.length),(13,iS .i64 i)]) (fun _=>[.cells (aP u) 95])
  (fun i=>i<=l.length/\(ftA u.fs (QG l i) (l.drop i) && R2)=R0) (fun i=>l.length - i) 0 1 ⟨Nat.zero_le _,hR0⟩ ?_ ?_ ?_
 · simp -dsimp only [go_sem]<;>simp
 · simp -dsimp only [go_sem,aP]<;>simp
 rintro i ⟨hi,ho⟩
 rcases bC i l.length with hlt | hge
 · have hg:decide ((i:Int) < (l.length:Int))=true:=by simp; omega
   obtain ⟨x,hx⟩:∃ t,l[i]? = some t:=⟨_,aU hlt⟩
   have q1:=t6 hx
   have hdr:l.drop i=x :: l.drop (i + 1):=by
    obtain ⟨h,rfl⟩:=a6.1 hx
    exact List.drop_eq_getElem_cons h
   have hpv:QG l (i + 1)=some x.1:=by rw [QG,hx]; rfl
   rw [hdr,jR,<-hpv] at ho
   simp (maxSteps:=1000000) -dsimp only [go_sem,hg,↓q1,aP]
   refine ⟨by omega,aD rfl (.done ?_)⟩
   simp (maxSteps:=1000000) -dsimp only [go_sem,B4]
   refine KZ (t:=u) hu hus ?_
   cases hf:fF u.fs x.1 with
   | none=>
    rw [hf] at ho
    simp (maxSteps:=1000000) -dsimp only [go_sem,KF,Option.getD_none,Option.isSome_none]
    refine aD rfl (.done ?_)
    simp (maxSteps:=1000000) -dsimp only [go_sem,m9,Bool.false_and]
    exact fin _ _ ho.symm
   | some g=>
    rw [hf,Option.isSome_some,Bool.true_and] at ho
    simp (maxSteps:=1000000) -dsimp only [go_sem,aW,Option.getD_some,Option.isSome_some]
    refine aD rfl (.done ?_)
    cases hz:decide ((0:Int) < (i:Int)) with
    | false=>
     obtain rfl:i=0:=by have:=of_decide_eq_false hz; omega
     simp (maxSteps:=1000000) -dsimp only [go_sem,m9,hz]
     refine ⟨by omega,aE (0 + 1) 1 ⟨by omega,ho⟩ (by omega) ?_ ?_⟩
     · simp -dsimp only [go_sem]<;>simp
     · simp -dsimp only [go_sem,aP]<;>simp [aP]
    | true=>
     have hz':=of_decide_eq_true hz
     obtain ⟨y,hy⟩:∃ t,l[i - 1]? = some t:=⟨_,aU (by omega)⟩
     have hti:((i:Int) - 1).toNat=i - 1:=by omega
     have q2:=fun p=>QN (n:=(i:Int) - 1) (x:=y) (by rw [hti]; exact hy) p
     have hpi:QG l i=some y.1:=by
      match i,hz',hy with
      | j + 1,_,hy=>rw [QG]; rw [show j + 1 - 1=j by omega] at hy; rw [hy]; rfl
     rw [hpi,LL] at ho
     have f1:(0<=(i:Int) - 1)=True:=eq_true (by omega)
     have f2:((i:Int) - 1 < (l.length:Int))=True:=eq_true (by omega)
     cases hc:decide (x.1<=y.1) with
     | true=>
      have:decide (y.1 < x.1)=false:=by have:=of_decide_eq_true hc; simp; omega
      rw [this] at ho
      simp (maxSteps:=1000000) -dsimp only [go_sem,m9,hz,↓q2,hc,f1,f2]
      exact ⟨by omega,fin _ _ ho.symm⟩
     | false=>
      have:decide (y.1 < x.1)=true:=by have:=of_decide_eq_false hc; simp; omega
      rw [this,Bool.true_and] at ho
      simp (maxSteps:=1000000) -dsimp only [go_sem,m9,hz,↓q2,hc,f1,f2]
      refine ⟨by omega,by omega,aE (i + 1) 1 ⟨by omega,ho⟩ (by omega) ?_ ?_⟩
      · simp -dsimp only [go_sem]<;>simp
      · simp -dsimp only [go_sem,aP]<;>simp [aP]
 · have hg:decide ((i:Int) < (l.length:Int))=false:=by simp; omega
   obtain rfl:i=l.length:=by omega
   rw [List.drop_length,KH,Bool.true_and] at ho
   simp (maxSteps:=1000000) -dsimp only [go_sem,hg,aP]
   refine aD rfl (.done ?_)
   simp (maxSteps:=1000000) -dsimp only [go_sem,A0]
   clear hi hge hg hR0
   rw [<-hR] at ho
   clear hR
   refine aN (α:=Nat) (fun i=>[(1,.va (.c1 (.fz (l.map bW)))),(2,.va (.c1 (.pt 0 0))),(44,.va (.c1 (.fz (u.fs.map aW)))),(45,iS .i64 u.fs.length),(46,iS .i64 i)]) (fun _=>[.cells (aP u) 95])
    (fun i=>i<=u.fs.length/\(u.fs.drop i).all (fun f=>f.opt || p6 l f.num)=R0) (fun i=>u.fs.length - i) 0 1 ⟨Nat.zero_le _,ho⟩ ?_ ?_ ?_
   · simp -dsimp only [go_sem]<;>simp
   · simp -dsimp only [go_sem,aP]<;>simp
   clear ho
   rintro i ⟨hi,ho⟩
   rcases bC i u.fs.length with hlt | hge
   · have hg:decide ((i:Int) < (u.fs.length:Int))=true:=by simp; omega
     obtain ⟨f,hx⟩:∃ t,u.fs[i]? = some t:=⟨_,aU hlt⟩
     have q1:=aV (row:=aW) hx
     rw [nL hx] at ho
     simp (maxSteps:=1000000) -dsimp only [go_sem,hg,↓q1,aP,aW]
     refine ⟨by omega,aD rfl (.done ?_)⟩
     cases hop:f.opt with
     | true=>
      rw [hop,Bool.true_or,Bool.true_and] at ho
      simp (maxSteps:=1000000) -dsimp only [go_sem,qS]
      refine ⟨by omega,aE (i + 1) 1 ⟨by omega,ho⟩ (by omega) ?_ ?_⟩
      · simp -dsimp only [go_sem]<;>simp
      · simp -dsimp only [go_sem,aP]<;>simp [aP]
     | false=>
      rw [hop,Bool.false_or] at ho
      have cu:=fun K h=>aEM (l:=l) (f:=f) (K:=K) (by omega) h
      rw [aW,hop] at cu
      simp (maxSteps:=1000000) -dsimp only [go_sem,qS]
      refine cu _ ?_
      cases hc:p6 l f.num with
      | false=>
       rw [hc,Bool.false_and] at ho
       simp (maxSteps:=1000000) -dsimp only [go_sem]
       exact fin _ _ ho.symm
      | true=>
       rw [hc,Bool.true_and] at ho
       simp (maxSteps:=1000000) -dsimp only [go_sem]
       refine ⟨by omega,aE (i + 1) 1 ⟨by omega,ho⟩ (by omega) ?_ ?_⟩
       · simp -dsimp only [go_sem]<;>simp
       · simp -dsimp only [go_sem,aP]<;>simp [aP]
   · have hg:decide ((i:Int) < (u.fs.length:Int))=false:=by simp; omega
     obtain rfl:i=u.fs.length:=by omega
     rw [o5] at ho
     simp (maxSteps:=1000000) -dsimp only [go_sem,hg,aP]
     exact fin _ _ ho.symm
abbrev X7 (s:Sc) (t:Ty) (v:Vl):Value:=.int .i64 (dZ s t v)
abbrev ckH (N:Nat):Sc->Ty->Vl->Prop:=fun _ _ v=>v.h<=N
def MN (s:Sc) (t:Ty) (v:Vl):Int:=bif v.n != 0 || !(bl v.s == []) || decide (0 < (v.f.length:Int)) then 13 else bif decide (t.s < (v.l.length:Int)) then 3 else j8 s (t.e.headD default) v.l
def NB (s:Sc) (t:Ty) (v:Vl):Int:=bif v.n != 0 || !(bl v.s == []) || decide (0 < (v.l.length:Int)) || !(c8 ((fS s.ss t.n).getD default).fs v.f) then 13 else jL s ((fS s.ss t.n).getD default).fs v.f
theorem iE {t:Ty} (h:TyOk t):eW [.vl (.int .i64 t.k),.vl (.int .i64 t.s),.vl (.string t.n),.fz (t.e.map aL)]:=by rw [<-aM]; exact dS h
theorem nT (t:Ty):C.ty [.vl (.int .i64 t.k),.vl (.int .i64 t.s),.vl (.string t.n),.fz (t.e.map aL)]=t:=by rw [<-aM,fG]
theorem iM {s:Sc} (h:s.fit):kK [.vl (.int .i64 s.ver),.fz (s.es.map bI),.fz (s.ss.map aP)]:=fK h
theorem nJ (s:Sc):C.sc [.vl (.int .i64 s.ver),.fz (s.es.map bI),.fz (s.ss.map aP)]=s:=fV s
theorem H4 {ss:List St} {es:List En} {t:Ty} (h:valF ss es t=true) (k:(t.k == 5)=true):∃ u,t.e=[u]/\valF ss es u=true:=by
 cases t with
 | mk k0 s n e=>
  obtain rfl:k0=5:=by have k:(k0 == 5)=true:=k; simpa using k
  exact wX h
theorem aEO (N:Nat) (hc:Meets Tryz.prog 53 (hS (ckH N) X7).sp):Meets Tryz.prog 93 (hS (fun s t v=>valF s.ss s.es t=true/\(t.k == 5)=true/\v.h<=N + 1) fun s t v=>.int .i64 (MN s t v)).sp:=by
 refine aF Tryz.func93 aMW 3 (by rw [Tryz.ntmps93]; decide) (aJ hc (aA _)) lD ?_
 intro av H K h
 obtain ⟨s,t,v,rfl,rfl,hs,ht,hv,⟨hp,hk,hh⟩,hK⟩:=iX h
 clear h
 have fin:∀ (z:Int) (R:Hp),MN s t v=z->W.Fin 0 K (iS .i64 z) R:=fun z R h=>by
  rw [h] at hK; exact .sel [] (by simp) (by simp) rfl (.done (by simpa [go_sem] using hK))
 clear hK
 unfold MN at fin
 obtain ⟨u,he,hu⟩:=H4 hp hk
 have huo:TyOk u:=ht.e u (by rw [he]; simp)
 have hll:=hv.ll
 rw [he] at fin
 simp only [List.headD_cons] at fin
 cases h0:(v.n != 0 || !(bl v.s == []) || decide (0 < (v.f.length:Int))) with
 | true=>
  rw [h0] at fin
  cases h1:v.n != 0<;>cases h2:bl v.s == []<;>cases h3:decide (0 < (v.f.length:Int)) <;>
  first
   | (exfalso; rw [h1,h2,h3] at h0; exact absurd h0 (by decide))
   | (simp (maxSteps:=1000000) -dsimp only [go_sem,aC,aM t,aS v,N0,NL,h1,h2,h3]
      exact fin _ _ rfl)
 | false=>
 rw [h0] at fin
 obtain ⟨h1,h2,h3⟩:(v.n != 0)=false/\(bl v.s == [])=true/\decide (0 < (v.f.length:Int))=false:=by
  simp only [Bool.or_eq_false_iff,Bool.not_eq_false'] at h0; exact ⟨h0.1.1,h0.1.2,h0.2⟩
 cases h4:decide (t.s < (v.l.length:Int)) with
 | true=>
  rw [h4] at fin
  simp (maxSteps:=1000000) -dsimp only [go_sem,aC,aM t,aS v,N0,NL,h1,h2,h3,h4]
  exact fin _ _ rfl
 | false=>
 rw [h4] at fin
 simp only [aG] at fin
 simp (maxSteps:=1000000) -dsimp only [go_sem,aC,aM t,aS v,N0,NL,h1,h2,h3,h4]
 refine aN (α:=Nat) (fun i=>[(3,.va (.c1 (.pt 0 0))),(4,.va (.c1 (.pt 1 0))),(5,.va (.c1 (.pt 2 0))),(33,.va (.c1 (.fz (v.l.map a8)))),(34,iS .i64 v.l.length),(35,iS .i64 i)]) (fun _=>[.cells (aC s) 105,.cells [.vl (.int .i64 t.k),.vl (.int .i64 t.s),.vl (.string t.n),.fz (t.e.map aL)] 28,.cells (bJ v) 32])
  (fun i=>i<=v.l.length/\j8 s u (v.l.drop i)=j8 s u v.l) (fun i=>v.l.length - i) 0 3 ⟨Nat.zero_le _,rfl⟩ ?_ ?_ ?_
 · simp -dsimp only [go_sem]<;>simp
 · simp -dsimp only [go_sem,bJ,aC]<;>simp
 rintro i ⟨hi,ho⟩
 rcases bC i v.l.length with hlt | hge
 · have hg:decide ((i:Int) < (v.l.length:Int))=true:=by simp; omega
   obtain ⟨x,hx⟩:∃ t,v.l[i]? = some t:=⟨_,aU hlt⟩
   have q1:=OA hx
   have hxm:=bM hx
   have k1:=fU (hv.l x hxm)
   have k2:=kQ x
   have k3:x.h<=N:=by have:=Vl.h_l hxm; omega
   have hdr:v.l.drop i=x :: v.l.drop (i + 1):=by
    obtain ⟨h,rfl⟩:=a6.1 hx
    exact List.drop_eq_getElem_cons h
   have k4:=iE huo
   have k5:=nT u
   have k6:=iM hs
   have k7:=nJ s
   rw [hdr,j8] at ho
   rw [he]
   cases h5:dZ s u x != 0 with
   | true=>
    rw [h5,aI] at ho
    simp (maxSteps:=1000000) -dsimp only [go_sem,hg,↓q1,bJ,aC,aM u,k1,k2,k3,k4,k5,k6,k7,h5,List.getElem?_cons_zero,aH,forall_eq']
    exact ⟨by omega,by omega,fin _ _ ho.symm⟩
   | false=>
    rw [h5,aG] at ho
    simp (maxSteps:=1000000) -dsimp only [go_sem,hg,↓q1,bJ,aC,aM u,k1,k2,k3,k4,k5,k6,k7,h5,List.getElem?_cons_zero,aH,forall_eq']
    refine ⟨by omega,by omega,by omega,aE (i + 1) 3 ⟨by omega,ho⟩ (by omega) ?_ ?_⟩
    · simp -dsimp only [go_sem]<;>simp
    · simp -dsimp only [go_sem,bJ,aC]<;>simp [aM u]
 · have hg:decide ((i:Int) < (v.l.length:Int))=false:=by simp; omega
   obtain rfl:i=v.l.length:=by omega
   rw [List.drop_length,j8] at ho
   simp (maxSteps:=1000000) -dsimp only [go_sem,hg,bJ,aC]
   exact fin _ _ ho.symm
theorem F9:TyOk default:=.mk (by unfold b5; decide) (by unfold b5; decide) (by decide) (by decide) (fun _ h=>by cases h)
theorem aFD {fs:List Fl} {u:St} (hu:u.ok) (e:fs=u.fs) (k:Int):TyOk ((fF fs k).getD default).ty:=by
 subst e
 cases hf:fF u.fs k with
 | none=>exact F9
 | some g=>exact (hu.fs g (List.mem_of_find?_eq_some hf)).ty
theorem QE (N:Nat) (hc:Meets Tryz.prog 53 (hS (ckH N) X7).sp):Meets Tryz.prog 94 (hS (fun _ _ v=>v.h<=N + 1) fun s t v=>.int .i64 (NB s t v)).sp:=by
 refine aF Tryz.func94 aK5 3 (by rw [Tryz.ntmps94]; decide) (aJ hc (aB nM (aJ aDK (aB rU (aA _))))) lD ?_
 intro av H K h
 obtain ⟨s,t,v,rfl,rfl,hs,ht,hv,hh,hK⟩:=iX h
 clear h
 have fin:∀ (z:Int) (R:Hp),NB s t v=z->W.Fin 0 K (iS .i64 z) R:=fun z R h=>by
  rw [h] at hK; exact .sel [] (by simp) (by simp) rfl (.done (by simpa [go_sem] using hK))
 clear hK
 unfold NB at fin
 have hlf:=hv.lf
 have kS:=TC hs t.n
 have kE:=ZI hv
 simp (maxSteps:=1000000) -dsimp only [go_sem,aC,aM t,aS v,aFV,aCE]
 refine kZ (s:=s) hs ?_
 generalize (fS s.ss t.n).getD default=u at *
 obtain ⟨huo,hus⟩:u.ok/\∀ f ∈ u.fs,TySm f.ty:=by
  obtain ⟨w,hw,h1,h2⟩:=kS
  obtain rfl:=t7 hw
  exact ⟨h1,h2⟩
 have kd:=aCS u
 have kv:=aEF v.f
 rw [aP] at kS kd
 simp (maxSteps:=1000000) -dsimp only [go_sem,aP]
 refine aD rfl (.done ?_)
 cases h0:(v.n != 0 || !(bl v.s == []) || decide (0 < (v.l.length:Int)) || !(c8 u.fs v.f)) with
 | true=>
  rw [h0] at fin
  cases h1:v.n != 0<;>cases h2:bl v.s == []<;>cases h3:decide (0 < (v.l.length:Int))<;>cases h4:c8 u.fs v.f <;>
  first
   | (exfalso; rw [h1,h2,h3,h4] at h0; exact absurd h0 (by decide))
   | (simp (maxSteps:=1000000) -dsimp only [go_sem,yS,h1,h2,h3,h4,kS,kE,kd]
      exact fin _ _ rfl)
 | false=>
 rw [h0] at fin
 simp only [aG] at fin
 obtain ⟨h1,h2,h3,h4⟩:(v.n != 0)=false/\(bl v.s == [])=true/\decide (0 < (v.l.length:Int))=false/\c8 u.fs v.f=true:=by
  simp only [Bool.or_eq_false_iff,Bool.not_eq_false'] at h0; exact ⟨h0.1.1.1,h0.1.1.2,h0.1.2,h0.2⟩
 simp (maxSteps:=1000000) -dsimp only [go_sem,yS,h1,h2,h3,h4,kS,kE,kd]
 refine aN (α:=Nat) (fun i=>[(3,.va (.c1 (.pt 0 0))),(4,.va (.c1 (.pt 1 0))),(5,.va (.c1 (.pt 2 0))),(7,.va (.c1 (.pt 3 0))),(44,.va (.c1 (.fz (v.f.map bW)))),(45,iS .i64 v.f.length),(46,iS .i64 i)]) (fun _=>[.cells (aC s) 105,.cells [.vl (.int .i64 t.k),.vl (.int .i64 t.s),.vl (.string t.n),.fz (t.e.map aL)] 28,.cells (bJ v) 32,.cells (aP u) 95])
  (fun i=>i<=v.f.length/\jL s u.fs (v.f.drop i)=jL s u.fs v.f) (fun i=>v.f.length - i) 0 4 ⟨Nat.zero_le _,rfl⟩ ?_ ?_ ?_
 · simp -dsimp only [go_sem]<;>simp
 · simp -dsimp only [go_sem,bJ,aC,aP]<;>simp
 rintro i ⟨hi,ho⟩
 rcases bC i v.f.length with hlt | hge
 · have hg:decide ((i:Int) < (v.f.length:Int))=true:=by simp; omega
   obtain ⟨x,hx⟩:∃ t,v.f[i]? = some t:=⟨_,aU hlt⟩
   have q1:=t6 hx
   have hxm:=bM hx
   have k1:=fU (hv.f x hxm)
   have k2:=kQ x.2
   have k3:x.2.h<=N:=by have:=Vl.h_f hxm; omega
   have hdr:v.f.drop i=x :: v.f.drop (i + 1):=by
    obtain ⟨h,rfl⟩:=a6.1 hx
    exact List.drop_eq_getElem_cons h
   have k6:=iM hs
   have k7:=nJ s
   rw [hdr,vX] at ho
   have hgo:=aFD huo rfl x.1
   simp (maxSteps:=1000000) -dsimp only [go_sem,hg,↓q1,bJ,aC,aP]
   refine ⟨by omega,aD rfl (.done ?_)⟩
   simp (maxSteps:=1000000) -dsimp only [go_sem,H0]
   refine KZ (t:=u) huo hus ?_
   generalize (fF u.fs x.1).getD default=g at *
   have k4:=iE hgo
   have k5:=nT g.ty
   simp (maxSteps:=1000000) -dsimp only [go_sem,aW]
   refine aD rfl (.done ?_)
   simp (maxSteps:=1000000) -dsimp only [go_sem,F1,k1,k2,k3,k4,k5,k6,k7]
   refine aD rfl (.done ?_)
   cases h5:dZ s g.ty x.2 != 0 with
   | true=>
    rw [h5,aI] at ho
    simp (maxSteps:=1000000) -dsimp only [go_sem,AJ,h5]
    exact fin _ _ ho.symm
   | false=>
    rw [h5,aG] at ho
    simp (maxSteps:=1000000) -dsimp only [go_sem,AJ,h5]
    refine ⟨by omega,aE (i + 1) 4 ⟨by omega,ho⟩ (by omega) ?_ ?_⟩
    · simp -dsimp only [go_sem]<;>simp
    · simp -dsimp only [go_sem,bJ,aC,aP]<;>simp [bJ,aC,aP]
 · have hg:decide ((i:Int) < (v.f.length:Int))=false:=by simp; omega
   obtain rfl:i=v.f.length:=by omega
   rw [List.drop_length,jL] at ho
   simp (maxSteps:=1000000) -dsimp only [go_sem,hg,bJ,aC,aP]
   exact fin _ _ ho.symm
theorem CM:∀ N,Meets Tryz.prog 53 (hS (ckH N) X7).sp
 | 0=>⟨by kernel_rfl,by rintro xs vs E ro w K _ _ _ h; obtain ⟨_,_,v,_,_,_,_,_,h,_⟩:=iX h; have:=v.h_pos; have h:v.h<=0:=h; omega⟩
 | N + 1=>by
  refine aF Tryz.func53 aLN 3 (by rw [Tryz.ntmps53]; decide) (aJ vS (aJ T6 (aJ aFX (aJ (aEO N (CM N)) (aJ (QE N (CM N)) (aA _)))))) lD ?_
  intro av H K h
  obtain ⟨s,t,v,rfl,rfl,hs,ht,hv,hh,hK⟩:=iX h
  clear h
  have hh:v.h<=N + 1:=hh
  have fin:∀ (z:Int) (R:Hp),dZ s t v=z->W.Fin 0 K (iS .i64 z) R:=fun z R h=>by
   have hK:K (iS .i64 (dZ s t v)) []:=hK
   rw [h] at hK; exact .sel [] (by simp) (by simp) rfl (.done (by simpa [go_sem] using hK))
  clear hK
  rw [rO] at fin
  have k1:=fU hv
  have k2:=kQ v
  have k4:=iE ht
  have k5:=nT t
  have k6:=iM hs
  have k7:=nJ s
  cases h1:valF s.ss s.es t with
  | false=>
   rw [h1] at fin
   simp (maxSteps:=1000000) -dsimp only [go_sem,aC,aM t,aS v,wR,wW,k4,k5,k6,k7,h1]
   exact fin _ _ rfl
  | true=>
  cases h2:v.k != t.k with
  | true=>
   rw [h1,h2] at fin
   simp (maxSteps:=1000000) -dsimp only [go_sem,aC,aM t,aS v,wR,wW,k4,k5,k6,k7,h1,h2]
   exact fin _ _ rfl
  | false=>
  rw [h1,h2] at fin
  simp only [Bool.not_true,Bool.or_self,aG] at fin
  cases h4:t.k == 4 with
  | true=>
   rw [h4,aI] at fin
   simp (maxSteps:=1000000) -dsimp only [go_sem,aC,aM t,aS v,wR,wW,k1,k2,k4,k5,k6,k7,h1,h2,h4,List.all_cons,List.all_nil]
   exact fin _ _ rfl
  | false=>
  rw [h4,aG] at fin
  cases h5:t.k == 5 with
  | true=>
   rw [h5,aI] at fin
   simp (maxSteps:=1000000) -dsimp only [go_sem,aC,aM t,aS v,wR,wW,k1,k2,k4,k5,k6,k7,h1,h2,h4,h5,hh,List.all_cons,List.all_nil]
   exact fin _ _ rfl
  | false=>
  rw [h5,aG] at fin
  cases h6:t.k == 6 with
  | true=>
   rw [h6,aI] at fin
   simp (maxSteps:=1000000) -dsimp only [go_sem,aC,aM t,aS v,wR,wW,k1,k2,k4,k5,k6,k7,h1,h2,h4,h5,h6,hh,List.all_cons,List.all_nil]
   exact fin _ _ rfl
  | false=>
  rw [h6,aG] at fin
  simp (maxSteps:=1000000) -dsimp only [go_sem,aC,aM t,aS v,wR,wW,k1,k2,k4,k5,k6,k7,h1,h2,h4,h5,h6,List.all_cons,List.all_nil]
  exact fin _ _ rfl
def gG (s:Sc) (t:Ty) (v:Vl):Int:=bif decide (6 < rN 7 v) then 9 else dZ s t v
theorem ZZ:Meets Tryz.prog 53 (hS (fun _ _ _=>True) X7).sp:=eJ 0 CM fun av H K h=>by
 obtain ⟨s,t,v,rfl,rfl,hs,ht,hv,_,hK⟩:=iX h
 refine ⟨v.h,⟨⟨fK hs,dS ht,BC hv,?_⟩,rfl⟩,?_⟩
 · show (C.vv (a8 v)).h<=v.h; rw [sV]; exact Nat.le_refl _
 · simpa -dsimp only [go_sem] using hK
theorem BF:Meets Tryz.prog 23 (hS (fun _ _ _=>True) fun s t v=>.int .i64 (gG s t v)).sp:=by
 refine aF Tryz.func23 aON 3 (by rw [Tryz.ntmps23]; decide) (aJ (L6 8) (aJ ZZ (aA _))) lD ?_
 intro av H K h
 obtain ⟨s,t,v,rfl,rfl,hs,ht,hv,_,hK⟩:=iX h
 clear h
 have fin:∀ (z:Int) (R:Hp),gG s t v=z->W.Fin 0 K (iS .i64 z) R:=fun z R h=>by
  rw [h] at hK; exact .sel [] (by simp) (by simp) rfl (.done (by simpa [go_sem] using hK))
 clear hK
 unfold gG at fin
 have k1:=fU hv
 have k2:=kQ v
 have k4:=iE ht
 have k5:=nT t
 have k6:=iM hs
 have k7:=nJ s
 have e8:((6:Int)=((8:Nat):Int) - 2)=True:=by decide
 have e9:iK 8 v=rN 7 v:=rfl
 cases h1:decide (6 < rN 7 v) with
 | true=>
  rw [h1] at fin
  simp (maxSteps:=1000000) -dsimp only [go_sem,aC,aM t,aS v,TT,TW,k1,k2,e8,e9,h1]
  exact fin _ _ rfl
 | false=>
  rw [h1] at fin
  simp (maxSteps:=1000000) -dsimp only [go_sem,aC,aM t,aS v,TT,TW,k1,k2,k4,k5,k6,k7,e8,e9,h1]
  exact fin _ _ rfl
theorem Y8:∀ (m:Nat) (r:List UInt8) (i:Nat) (out:List UInt8),r.length=m->(quoL i r out).1<=i + r.length:=by
 intro m
 induction m using Nat.strongRecOn with
 | ind m ih=>
  intro r i out hm
  cases r with
  | nil=>rw [qT]; exact Nat.le_add_right _ _
  | cons c r=>
   rw [gJ]
   simp only [List.length_cons] at hm ⊢
   cases (decide (c < 32) || decide (126 < c)) with
   | true=>simp
   | false=>
    cases (c == 34) with
    | true=>simp
    | false=>
     cases (c == 92) with
     | true=>
      simp only [aG,aI]
      cases r with
      | nil=>simp
      | cons d r'=>
       simp only [List.length_cons] at hm ⊢
       cases (d == 34 || d == 92) with
       | true=>simp only [aI]; have:=ih r'.length (by omega) r' (i + 2) (out ++ [d]) rfl; omega
       | false=>simp
     | false=>
      simp only [aG]
      have:=ih r.length (by omega) r (i + 1) (out ++ [c]) rfl; omega
structure Told (l:List UInt8) (p:Nat) (k:Int) (x:List UInt8) (n:Int) (z:Nat):Prop where
 zero:k=0->p=l.length/\x=[]/\n=0
 one:k ≠ 0->∃ c,l[p]? = some c/\p < z/\z<=l.length/\0 < k/\k<=4/\32 < c.toNat/\c.toNat ≠ 35/\(c == 34)=(k == 3)/\(k == 1)=bD c.toNat
theorem zQ {l:List UInt8} {a:Nat} (ha:a<=l.length):(∀ {e t},jN l a=.bad e t->0<=t/\t<=l.length)/\∀ {k x n z},jN l a=.ok k x n z->k=1:=by
 have:=uI (p:=aX) ha
 unfold jN
 simp only
 cases decide (16 < bP aX l a - a)<;>cases (l[bP aX l a]? == some 45)<;>simp [R.bad.injEq,R.ok.injEq]
 all_goals (intros; omega)
theorem CW {l:List UInt8} {a:Nat} {c:UInt8} (hc:l[a]? = some c):(∀ {e t},kJ l a=.bad e t->0<=t/\t<=l.length)/\∀ {k x n z},kJ l a=.ok k x n z->k=2:=by
 have hlt:a < l.length:=(a6.1 hc).1
 have hge:(bif l[a]? == some 45 then a + 1 else a)<=l.length:=by cases (l[a]? == some 45)<;>simp<;>omega
 have hz2:=uI (p:=bH) hge
 unfold kJ
 simp only
 generalize (List.drop (bif l[a]? == some 45 then a + 1 else a) (List.take (bP bH l (bif l[a]? == some 45 then a + 1 else a)) l))=q
 cases (q == [] || (q[0]? == some 48 && (decide (1 < q.length) || l[a]? == some 45))) with
 | true=>simp only [aI,R.bad.injEq,reduceCtorEq,false_implies,implies_true,and_true]; rintro e t ⟨rfl,rfl⟩; omega
 | false=>
  simp only [aG]
  split
  · simp only [R.bad.injEq,reduceCtorEq,false_implies,implies_true,and_true]; rintro e t ⟨rfl,rfl⟩; omega
  · cases qA l (bP bH l (bif l[a]? == some 45 then a + 1 else a))<;>simp only [aI,aG,R.bad.injEq,R.ok.injEq,reduceCtorEq,false_implies,implies_true,and_true,true_and]
    · rintro k x n z ⟨rfl,_⟩; rfl
    · rintro e t ⟨rfl,rfl⟩; omega
theorem xR {l:List UInt8} {a:Nat} (ha:a < l.length):(∀ {e t},i6 l a=.bad e t->0<=t/\t<=l.length)/\∀ {k x n z},i6 l a=.ok k x n z->k=3:=by
 have:=Y8 _ (l.drop (a + 1)) (a + 1) [] rfl
 simp only [List.length_drop] at this
 unfold i6
 split
 · rename_i i hq
   rw [hq] at this
   simp only at this
   constructor
   · intro e t h; simp only [R.bad.injEq] at h; omega
   · intro k x n z h; cases h
 · rename_i z o hq
   cases decide (200 < o.length)<;>simp [R.bad.injEq,R.ok.injEq]
   all_goals (intros; omega)
def MH (c:UInt8):Bool:=
 (!(bD c.toNat || bH c || c == 45 || c == 34 || eF c.toNat) || (decide (32 < c.toNat) && c.toNat != 35)) && (!bD c.toNat || !(c == 34)) && (!(bH c || c == 45) || !(c == 34)) && (!eF c.toNat || !(c == 34))
theorem Q3 (c:UInt8):MH c=true:=cE (by decide +kernel) c
theorem sP {l:List UInt8} {p:Nat} (hp:p<=l.length):(∀ {e t},eH l p=.bad e t->e ≠ 0/\0<=t/\t<=l.length)/\∀ {k x n z},eH l p=.ok k x n z->Told l p k x n z:=by
 obtain ⟨hb,ho⟩:=x8 hp
 refine ⟨fun {e t} h=>⟨hb h,?_⟩,fun {k x n z} h=>?_⟩
 · unfold eH at h
   split at h
   · cases h
   · rename_i c hc
     have hlt:p < l.length:=(a6.1 hc).1
     revert h
     cases bD c.toNat with
     | true=>exact fun h=>(zQ hp).1 h
     | false=>
      cases (bH c || c == 45) with
      | true=>exact fun h=>(CW hc).1 h
      | false=>
       cases (c == 34) with
       | true=>exact fun h=>(xR hlt).1 h
       | false=>
        cases eF c.toNat with
        | true=>intro h; cases h
        | false=>intro h; simp only [aG,R.bad.injEq] at h; omega
 · obtain ⟨o1,o2⟩:=ho h
   unfold eH at h
   split at h
   · simp only [R.ok.injEq] at h
     exact ⟨fun h0=>⟨o1 h0,h.2.1.symm,h.2.2.1.symm⟩,fun h0=>absurd h.1.symm h0⟩
   · rename_i c hc
     have hlt:p < l.length:=(a6.1 hc).1
     have hs:=Q3 c
     unfold MH at hs
     have key:∀ {q:Int},k=q->0 < q->q<=4->(32 < c.toNat/\c.toNat ≠ 35)->(c == 34)=(q == 3)->(q == 1)=bD c.toNat->Told l p k x n z:=by
      rintro q rfl h1 h2 h3 h4 h5
      obtain ⟨h6,h7⟩:=o2 (by omega)
      exact ⟨fun h=>by omega,fun _=>⟨c,hc,h6,h7,h1,h2,h3.1,h3.2,h4,h5⟩⟩
     revert h hs
     cases hL:bD c.toNat with
     | true=>
      intro h hs
      simp at hs
      exact key ((zQ hp).2 h) (by omega) (by omega) hs.1.1.1 (by simpa using hs.1.1.2) (by rw [hL]; rfl)
     | false=>
      cases hd:(bH c || c == 45) with
      | true=>
       intro h hs
       have hd':bH c=true\/c=45:=by simpa using hd
       simp only [Bool.false_or,hd,Bool.true_or,Bool.not_true,Bool.not_false,Bool.and_true,Bool.true_and,Bool.and_eq_true] at hs
       simp at hs
       exact key ((CW hc).2 h) (by omega) (by omega) hs.1.1 (by simpa using hs.1.2) (by rw [hL]; rfl)
      | false=>
       cases h4:(c == 34) with
       | true=>
        intro h hs
        have:c=34:=by simpa using h4
        subst this
        exact key ((xR hlt).2 h) (by omega) (by omega) (by decide) (by rfl) (by rw [hL]; rfl)
       | false=>
        cases hm:eF c.toNat with
        | true=>
         intro h hs
         simp only [Bool.false_or,hd,Bool.or_true,Bool.not_true,Bool.not_false,Bool.and_true,Bool.true_and,Bool.and_eq_true] at hs
         simp at hs
         simp only [aG,aI,R.ok.injEq] at h
         exact key h.1.symm (by omega) (by omega) hs (by rw [h4]; rfl) (by rw [hL]; rfl)
        | false=>intro h hs; cases h
def sD (l:List UInt8):Nat->List Tk->Prop
 | _,[]=>False
 | a,t :: ts=>a<=t.a/\t.a<=l.length/\∃ z,Told l t.a t.k t.x t.n z/\(t.k=0->ts=[])/\(t.k ≠ 0->sD l z ts)
theorem DZ {l:List UInt8}:∀ (f a:Nat) (ts:List Tk),a<=l.length->l.length < f + a->eX f l a=.ok ts->sD l a ts
 | 0,a,ts,ha,hf,h=>by omega
 | f + 1,a,ts,ha,hf,h=>by
  have hpl:bY l a<=l.length:=qU ha
  have hpa:a<=bY l a:=GL
  rw [eX] at h
  split at h
  · cases h
  · rename_i k x n z hR
    have ht:=(sP hpl).2 hR
    cases hk:k == 0 with
    | true=>
     rw [hk] at h
     simp only [aI,SR.ok.injEq] at h
     subst h
     exact ⟨hpa,hpl,z,ht,fun _=>rfl,fun h=>absurd (by simpa using hk) h⟩
    | false=>
     rw [hk] at h
     have hk':k ≠ 0:=by simpa using hk
     obtain ⟨c,_,h1,h2,_⟩:=ht.one hk'
     cases hr:eX f l z with
     | bad e t=>rw [hr] at h; cases h
     | ok us=>
      rw [hr] at h
      simp only [aG,SR.cons,SR.ok.injEq] at h
      subst h
      exact ⟨hpa,hpl,z,ht,fun h=>absurd h hk',fun _=>DZ f z us h2 (by omega) hr⟩
theorem GD {l:List UInt8}:∀ (f a:Nat) (e t:Int),a<=l.length->eX f l a=.bad e t->e ≠ 0/\0<=t/\t<=l.length
 | 0,a,e,t,ha,h=>by cases h
 | f + 1,a,e,t,ha,h=>by
  have hpl:bY l a<=l.length:=qU ha
  rw [eX] at h
  split at h
  · rename_i e' t' hR
    have:=(sP hpl).1 hR
    simp only [SR.bad.injEq] at h
    obtain ⟨rfl,rfl⟩:=h; exact this
  · rename_i k x n z hR
    have ht:=(sP hpl).2 hR
    cases hk:k == 0 with
    | true=>rw [hk] at h; cases h
    | false=>
     rw [hk] at h
     have hk':k ≠ 0:=by simpa using hk
     obtain ⟨c,_,h1,h2,_⟩:=ht.one hk'
     cases hr:eX f l z with
     | bad e' t'=>rw [hr] at h; simp only [aG,SR.cons,SR.bad.injEq] at h; obtain ⟨rfl,rfl⟩:=h; exact GD f z _ _ h2 hr
     | ok us=>rw [hr] at h; cases h
theorem M7 (l:List UInt8):(a7 l).err ≠ 0/\(a7 l).toks=[]/\0<=(a7 l).off/\(a7 l).off<=l.length\/(a7 l).err=0/\(a7 l).off=0/\l.length<=4000/\sD l 0 (a7 l).toks:=by
 unfold a7
 cases h:decide (4000 < l.length) with
 | true=>left; exact ⟨by simp [SR.err],rfl,by simp [SR.off],by simp [SR.off]⟩
 | false=>
  have h4:l.length<=4000:=by simpa using h
  simp only [aG]
  cases hr:eX (l.length + 1) l 0 with
  | bad e t=>left; obtain ⟨h1,h2,h3⟩:=GD _ _ _ _ (by omega) hr; exact ⟨h1,rfl,h2,h3⟩
  | ok ts=>right; exact ⟨rfl,rfl,h4,DZ _ _ _ (by omega) (by omega) hr⟩
theorem L8 {l:List UInt8} {a:Nat} {ts:List Tk} (h:sD l a ts):0 < ts.length:=by
 cases ts with
 | nil=>exact h.elim
 | cons t ts=>simp
theorem HE {l:List UInt8}:∀ {a:Nat} {ts:List Tk},sD l a ts->ts.length + a<=l.length + 1
 | a,[],h=>h.elim
 | a,t :: ts,⟨h1,h2,z,h3,h4,h5⟩=>by
  rcases Decidable.em (t.k=0) with h0 | h0
  · rw [h4 h0]; simp only [List.length_cons,List.length_nil]; omega
  · obtain ⟨c,_,g1,_⟩:=h3.one h0
    have:=HE (h5 h0)
    simp only [List.length_cons]; omega
theorem LW {l:List UInt8}:∀ {a:Nat} {ts:List Tk} {i:Nat} {t:Tk},sD l a ts->ts[i]? = some t->
 a<=t.a/\t.a<=l.length/\(∃ z,Told l t.a t.k t.x t.n z)/\(t.k=0 ↔ i + 1=ts.length)/\∀ u,0 < i->ts[i - 1]? = some u->u.a < t.a
 | a,[],i,t,h,_=>h.elim
 | a,s :: ts,0,t,⟨h1,h2,z,h3,h4,h5⟩,hi=>by
  simp at hi; subst hi
  refine ⟨h1,h2,⟨z,h3⟩,⟨fun h=>by rw [h4 h]; rfl,fun h=>?_⟩,fun u h=>by omega⟩
  rcases Decidable.em (s.k=0) with h0 | h0
  · exact h0
  · have:=L8 (h5 h0); simp only [List.length_cons] at h; omega
 | a,s :: ts,i + 1,t,⟨h1,h2,z,h3,h4,h5⟩,hi=>by
  simp at hi
  have h0:s.k ≠ 0:=fun h=>by rw [h4 h] at hi; simp at hi
  obtain ⟨c,_,g1,g2,_⟩:=h3.one h0
  obtain ⟨q1,q2,q3,q4,q5⟩:=LW (h5 h0) hi
  refine ⟨by omega,q2,q3,by rw [q4]; simp,fun u _ hu=>?_⟩
  simp only [Nat.add_sub_cancel] at hu
  cases i with
  | zero=>simp at hu; subst hu; omega
  | succ i=>simp at hu; exact q5 u (by omega) (by simpa using hu)
def Got:R->ByteArray->Int->Int->Int->Int->Prop
 | .ok _ x n z,x',n',z',e',t'=>x'=mk x/\n'=n/\z'=z/\e'=0/\t'=0
 | .bad e t,_,_,_,e',t'=>e'=e/\t'=t
def decV:Nat->List UInt8->Nat
 | n,[]=>n
 | n,c :: l=>decV (10 * n + (c.toNat - 48)) l
theorem nE (n:Nat):decV n []=n:=by rw [decV.eq_def]
theorem jY (n:Nat) (c:UInt8) (l:List UInt8):decV n (c :: l)=decV (10 * n + (c.toNat - 48)) l:=by rw [decV.eq_def]
theorem KX:∀ (l:List UInt8) (n:Nat),n<=decV n l
 | [],n=>by rw [nE]; exact Nat.le_refl n
 | c :: l,n=>by have:=KX l (10 * n + (c.toNat - 48)); rw [jY]; omega
theorem O8 (lim n:Nat) (c:UInt8) (l:List UInt8):valL lim n (c :: l)=if (lim - (c.toNat - 48)) / 10 < n then none else valL lim (10 * n + (c.toNat - 48)) l:=by rw [valL.eq_def]
theorem GU {lim:Nat} (h9:9<=lim):∀ (l:List UInt8) (n:Nat),n<=lim->(∀ c ∈ l,bH c=true)->valL lim n l=bif decide (decV n l<=lim) then some (decV n l) else none
 | [],n,hn,_=>by rw [nE,valL.eq_def]; simp [hn]
 | c :: l,n,hn,hd=>by
  have hc:=kY.1 (hd c (by simp))
  rw [O8,jY]
  generalize c.toNat=d at hc ⊢
  by_cases h:(lim - (d - 48)) / 10 < n
  · have:=KX l (10 * n + (d - 48))
    have h2:decide (decV (10 * n + (d - 48)) l<=lim)=false:=by simp only [decide_eq_false_iff_not]; omega
    rw [if_pos h,h2]; rfl
  · rw [if_neg h]
    exact GU h9 l _ (by omega) (fun x hx=>hd x (by simp [hx]))
theorem Got.bad {r:R} {e t:Int} (h:r=.bad e t) {x:ByteArray} {n z:Int}:Got r x n z e t:=by subst h; exact ⟨rfl,rfl⟩
theorem Got.ok {r:R} {k:Int} {x:List UInt8} {n:Int} {z:Nat} (h:r=.ok k x n z):Got r (mk x) n z 0 0:=by subst h; exact ⟨rfl,rfl,rfl,rfl,rfl⟩
theorem HU (l:List UInt8):cF l=true ↔ ∃ c,l[0]? = some c/\l.length<=16/\bD c.toNat=true/\∀ x ∈ l,aX x=true:=by
 cases l with
 | nil=>simp [cF]
 | cons c l=>simp [cF,and_assoc]
end Go.Proofs.YtkpohmhenegkiaaGreatDoor
