/- The W library, part 15: what the reckoning of vc unfolds (under the kit's own simp attribute), and small facts. -/
import Derived.Test.YtngmjggconefcaaW14
namespace Go.W
attribute [go_sem ↓] vJ0 vI callP cqP sp Fun.sp vRs rfn
@[go_sem ↓] theorem sp_s (s : Spec) (as' : List S) (H : Hp) (K : S → Hp → Prop) : (Entry.s s).sp as' H K = s as' H K := rfl
@[go_sem ↓] theorem sp_f (p : Fun) (as' : List S) (H : Hp) (K : S → Hp → Prop) : (Entry.f p).sp as' H K = p.sp as' H K := rfl
attribute [go_sem ↓] lq vE vA vL qv qc ev gv gds QI.sl LI.sl EI.sl O.sl O.sls O.slo O.slp tup
@[go_sem ↓] theorem put_at (fr : Fr) (d : Nat) (s : S) (i : Nat) : put fr (some d) s i = if i = d then s else fr i := rfl
@[go_sem ↓] theorem put_no (fr : Fr) (s : S) (i : Nat) : put fr none s i = fr i := rfl
@[go_sem ↓] theorem fst_at (fr : Fr) (i : Nat) : fst fr i = (fr i).st := rfl
@[go_sem ↓] theorem fr0_at (xs : List S) (i : Nat) : fr0 xs i = xs.getD i .un := rfl
attribute [go_sem] S.ofV A.ofV binI binIc binS binSc rowAt
attribute [go_sem] wr splice bdV bdC bnd rows okS oks eqC eqF fnOf Entry.f loc back pickH mergeH pubH san shuts shutss rff
section
variable {Γ : Env} {k0 : Nat} {x y : PC} {fr : Fr} {H : Hp} {K : Ex → Fr → Hp → Prop} {id : Nat} {o : O} {js : List J}
@[go_sem ↓] theorem vR_nil (K : Fr → Hp → Prop) : vR Γ [] fr H K = K fr H := rfl
@[go_sem ↓] theorem vR_cons0 (K : Fr → Hp → Prop) (d : Option Nat) (i : I) (r : List J) : vR Γ (⟨d, none, i⟩ :: r) fr H K = vJ0 Γ fr H (fun fr' H' => vR Γ r fr' H' K) d i := rfl
@[go_sem ↓] theorem vR_consg (K : Fr → Hp → Prop) (d : Option Nat) (sl : Nat) (want : Bool) (i : I) (r : List J) : vR Γ (⟨d, some (sl, want), i⟩ :: r) fr H K = (match gv fr sl want with
    | none => False
    | some g => vJg Γ fr H (fun fr' H' => vR Γ r fr' H' K) d sl want g i) := rfl
/-- A guarded instruction whose guard is known. -/
@[go_sem ↓] theorem vJg_q (K : Fr → Hp → Prop) (d : Option Nat) (sl : Nat) (want g : Bool) (i : QI) : vJg Γ fr H K d sl want g (.q i) = (match qv (fst fr) H i with
    | some s => (g = true → gds fr i.sl ∧ qc (fst fr) H i) ∧ K (put fr d (s.cnd g)) H
    | none => g = false ∧ K (put fr d dum) H) := rfl
@[go_sem ↓] theorem vJg_ix (K : Fr → Hp → Prop) (d : Option Nat) (sl : Nat) (want g : Bool) (x y : O) : vJg Γ fr H K d sl want g (.ix x y) = (match ev (fst fr) x, ev (fst fr) y with
    | .va (.c1 (.vl (.string s))), .va (.c1 (.vl (.int _ k))) => (g = true → gds fr (x.sl ++ y.sl) ∧ 0 ≤ k ∧ k < (bl s).length) ∧ ∀ c : UInt8, (g = true → (bl s)[k.toNat]? = some c) → K (put fr d (.cn g (.c1 (.vl (.int .u8 c.toNat))))) H
    | _, _ => g = false ∧ K (put fr d dum) H) := rfl
@[go_sem ↓] theorem vJg_l (K : Fr → Hp → Prop) (d : Option Nat) (sl : Nat) (want g : Bool) (i : LI) : vJg Γ fr H K d sl want g (.l i) = (match lq (fst fr) H i with
    | some s => (g = true → gds fr i.sl) ∧ K (put fr d (s.cnd g)) H
    | none => (g = true → gds (rfn fr sl want) i.sl ∧ vL (fst (rfn fr sl want)) H i fun s => K (put (rfn fr sl want) d s) H) ∧ (g = false → K (put (rff fr sl want) d dum) H)) := rfl
@[go_sem ↓] theorem vJg_pick (K : Fr → Hp → Prop) (d : Option Nat) (sl : Nat) (want g : Bool) (c x y : O) : vJg Γ fr H K d sl want g (.pick c x y) = (match ev (fst fr) c, ev (fst fr) x, ev (fst fr) y with
    | .va (.c1 (.vl (.bool b))), .va ax, .va ay => (g = true → gds fr c.sl ∧ (b = true → gds fr x.sl) ∧ (b = false → gds fr y.sl)) ∧ K (put fr d (.cn g (mrg b ax ay))) H
    | _, _, _ => g = false ∧ K (put fr d dum) H) := rfl
@[go_sem ↓] theorem vJg_cq (K : Fr → Hp → Prop) (d : Option Nat) (sl : Nat) (want g : Bool) (f : FuncId) (xs : List O) : vJg Γ fr H K d sl want g (.cq f xs) = cqP Γ fr H f xs (g = true) fun a => K (put fr d (.cn g a)) H := rfl
@[go_sem ↓] theorem vJg_e (K : Fr → Hp → Prop) (d : Option Nat) (sl : Nat) (want g : Bool) (i : EI) : vJg Γ fr H K d sl want g (.e i) = ((g = true → vI Γ (rfn fr sl want) H (fun s H' => K (put (rfn fr sl want) d s) H') (.e i)) ∧ (g = false → K (put (rff fr sl want) d .un) H)) := rfl
@[go_sem ↓] theorem vJg_cl (K : Fr → Hp → Prop) (d : Option Nat) (sl : Nat) (want g : Bool) (f : FuncId) (xs : List O) (σ : List Nat) : vJg Γ fr H K d sl want g (.cl f xs σ) = ((g = true → vI Γ (rfn fr sl want) H (fun s H' => K (put (rfn fr sl want) d s) H') (.cl f xs σ)) ∧ (g = false → K (put (rff fr sl want) d .un) H)) := rfl
@[go_sem ↓] theorem vJg_ca (K : Fr → Hp → Prop) (d : Option Nat) (sl : Nat) (want g : Bool) (f : O) (xs : List O) (σ : List Nat) : vJg Γ fr H K d sl want g (.ca f xs σ) = ((g = true → vI Γ (rfn fr sl want) H (fun s H' => K (put (rfn fr sl want) d s) H') (.ca f xs σ)) ∧ (g = false → K (put (rff fr sl want) d .un) H)) := rfl

def vcl (Γ : Env) (k0 : Nat) (x : PC) (fr : Fr) (H : Hp) (K : Ex → Fr → Hp → Prop) (_ : Tag (Γ, x, fr, K)) : Prop := vc Γ k0 (.loop x) fr H K
@[go_sem ↓] theorem vc_loop_fold : vc Γ k0 (.loop x) fr H K = vcl Γ k0 x fr H K ⟨⟩ := rfl
def vcg (Γ : Env) (k0 : Nat) (x : PC) (fr : Fr) (H : Hp) (K : Ex → Fr → Hp → Prop) (_ : Tag (Γ, x, fr, K)) : Prop := Gh k0 (fun fr' H' => vc Γ k0 x fr' H' K) fr H
@[go_sem ↓] theorem vc_gh_fold : vc Γ k0 (.gh x) fr H K = vcg Γ k0 x fr H K ⟨⟩ := rfl
@[go_sem ↓] theorem vc_skip : vc Γ k0 .skip fr H K = K .n fr H := rfl
@[go_sem ↓] theorem vc_seq : vc Γ k0 (.seq x y) fr H K = vc Γ k0 x fr H (fun e fr' H' => match e with | .n => vc Γ k0 y fr' H' K | e => K e fr' H') := rfl
@[go_sem ↓] theorem vc_reg : vc Γ k0 (.reg js) fr H K = vR Γ js fr H (K .n) := rfl
@[go_sem ↓] theorem vc_ord (l : List OJ) : vc Γ k0 (.ord l) fr H K = vO Γ l fr H (K .n) := rfl
@[go_sem ↓] theorem vO_nil (K : Fr → Hp → Prop) : vO Γ [] fr H K = K fr H := rfl
@[go_sem ↓] theorem vO_q0 (K : Fr → Hp → Prop) (d : Nat) (i : I) (r : List OJ) : vO Γ (.q ⟨some d, none, i⟩ :: r) fr H K = vJ0 Γ fr H (fun fr' _ => vO Γ r (put fr (some d) (fr' d)) H K) (some d) i := rfl
@[go_sem ↓] theorem vO_qg (K : Fr → Hp → Prop) (d sl : Nat) (want : Bool) (i : I) (r : List OJ) : vO Γ (.q ⟨some d, some (sl, want), i⟩ :: r) fr H K = (match gv fr sl want with
    | none => False
    | some g => vJg Γ fr H (fun fr' _ => vO Γ r (put fr (some d) (fr' d)) H K) (some d) sl want g i) := rfl
@[go_sem ↓] theorem vO_m0 (K : Fr → Hp → Prop) (d : Option Nat) (i : I) (r : List OJ) : vO Γ (.m ⟨d, none, i⟩ :: r) fr H K = vJ0 Γ fr H (fun fr' H' => vO Γ r fr' H' K) d i := rfl
@[go_sem ↓] theorem vO_mg (K : Fr → Hp → Prop) (d : Option Nat) (sl : Nat) (want : Bool) (i : I) (r : List OJ) : vO Γ (.m ⟨d, some (sl, want), i⟩ :: r) fr H K = (match gv fr sl want with
    | none => False
    | some g => vJg Γ fr H (fun fr' H' => vO Γ r fr' H' K) d sl want g i) := rfl
@[go_sem ↓] theorem vO_rc0 (K : Fr → Hp → Prop) (d : Nat) (i : I) (r : List OJ) : vO Γ (.rc ⟨some d, none, i⟩ :: r) fr H K = (vJ0 Γ fr H (fun fr' _ => fr' d = fr d) (some d) i ∧ vO Γ r fr H K) := rfl
@[go_sem ↓] theorem vO_rcg (K : Fr → Hp → Prop) (d sl : Nat) (want : Bool) (i : I) (r : List OJ) : vO Γ (.rc ⟨some d, some (sl, want), i⟩ :: r) fr H K = ((match gv fr sl want with
    | none => False
    | some g => vJg Γ fr H (fun fr' _ => fr' d = fr d) (some d) sl want g i) ∧ vO Γ r fr H K) := rfl
@[go_sem ↓] theorem vc_cond : vc Γ k0 (.cond o x y) fr H K = (match ev (fst fr) o with
    | .va (.c1 (.vl (.bool b))) => gds fr o.sl ∧ (b = true → vc Γ k0 x fr H K) ∧ (b = false → vc Γ k0 y fr H K)
    | _ => False) := rfl
@[go_sem ↓] theorem vc_block : vc Γ k0 (.block id x) fr H K = vc Γ k0 x fr H (fun e fr' H' => match e with | .e j => if j = id then K .n fr' H' else K (.e j) fr' H' | e => K e fr' H') := rfl
@[go_sem ↓] theorem vc_exit : vc Γ k0 (.exit id) fr H K = K (.e id) fr H := rfl
@[go_sem ↓] theorem vc_no : vc Γ k0 .no fr H K = False := rfl
@[go_sem ↓] theorem vc_ret : vc Γ k0 .ret fr H K = K .r fr H := rfl

def puts : List (Nat × S) → Fr
  | [] => fun _ => .un
  | (i, s) :: r => put (puts r) (some i) s
def agree (L : Nat) (fr : Fr) : List (Nat × S) → Prop
  | [] => True
  | (i, s) :: r => (fr i).ren (san L) = s ∧ agree L fr r
@[go_sem ↓] theorem puts_at (l : List (Nat × S)) (i j : Nat) (s : S) : puts ((j, s) :: l) i = if i = j then s else puts l i := rfl
@[go_sem ↓] theorem puts_no (i : Nat) : puts [] i = .un := rfl
attribute [go_sem ↓] agree

theorem puts_wk {L : Nat} : ∀ {l : List (Nat × S)} {fr : Fr}, agree L fr l → ∀ i, puts l i = (fr i).ren (san L) ∨ puts l i = .un
  | [], fr, _, i => .inr rfl
  | (j, s) :: r, fr, h, i => by
    simp only [puts, put]
    split
    · rename_i hi; subst hi; exact .inl h.1.symm
    · exact puts_wk h.2 i

def agree' (ns : List Nat) (fr : Fr) : List (Nat × S) → Prop
  | [] => True
  | (i, s) :: r => (fr i).ren (loc ns) = s ∧ agree' ns fr r
attribute [go_sem ↓] agree'
theorem puts_wk' {ns : List Nat} : ∀ {l : List (Nat × S)} {fr : Fr}, agree' ns fr l → ∀ i, puts l i = (fr i).ren (loc ns) ∨ puts l i = .un
  | [], fr, _, i => .inr rfl
  | (j, s) :: r, fr, h, i => by
    simp only [puts, put]
    split
    · rename_i hi; subst hi; exact .inl h.1.symm
    · exact puts_wk' h.2 i
def NextR' {α : Type} (ns : List Nat) (_k0 : Nat) (up : α → List (Nat × S)) (Hs : α → Hp) (z' : α) (fr : Fr) (H : Hp) : Prop := agree' ns fr (up z') ∧ (pickH H ns).map (B.ren (loc ns)) = Hs z'
/-- What a round of a loop hands on: z is the round's own state, up its live slots, Hs its own blocks. -/
def loopK {α : Type} (k0 : Nat) (up : α → List (Nat × S)) (Hs : α → Hp) (Inv : α → Prop) (μ : α → Nat) (z : α) (K : Ex → Fr → Hp → Prop) : Ex → Fr → Hp → Prop
  | .n, fr', H' => Gh k0 (fun fr'' H'' => ∃ m', m' < μ z ∧ ∃ z', Inv z' ∧ fr'' = puts (up z') ∧ H'' = Hs z' ∧ m' = μ z') fr' H'
  | e, fr', H' => K e fr' H'
section
variable {α : Type} {up : α → List (Nat × S)} {Hs : α → Hp} {Inv : α → Prop} {μ : α → Nat} {z : α}
def NextR (k0 : Nat) (up : α → List (Nat × S)) (Hs : α → Hp) (Inv : α → Prop) (μ : α → Nat) (z : α) (fr : Fr) (H : Hp) (_ : Tag (up, Hs, Inv, μ, z, fr)) : Prop :=
  Gh k0 (fun fr'' H'' => ∃ m', m' < μ z ∧ ∃ z', Inv z' ∧ fr'' = puts (up z') ∧ H'' = Hs z' ∧ m' = μ z') fr H
@[go_sem ↓] theorem loopK_n : loopK k0 up Hs Inv μ z K .n fr H = NextR k0 up Hs Inv μ z fr H ⟨⟩ := rfl
@[go_sem ↓] theorem loopK_e (j : Nat) : loopK k0 up Hs Inv μ z K (.e j) fr H = K (.e j) fr H := rfl
@[go_sem ↓] theorem loopK_r : loopK k0 up Hs Inv μ z K .r fr H = K .r fr H := rfl
/-- On to the next round. -/
theorem loop_next (z' : α) (L : Nat) (h1 : Inv z') (h2 : μ z' < μ z) (h3 : agree L fr (up z')) (h4 : (H.take L).map (B.ren (san L)) = Hs z') (h0 : k0 ≤ L := by decide) : NextR k0 up Hs Inv μ z fr H ⟨⟩ :=
  .cut L h0 (.wk _ (puts_wk h3) (.done ⟨_, h2, z', h1, rfl, h4, rfl⟩))
/-- A LOOP: z: what turns from round to round; up: the live slots; Hs: the own blocks. -/
theorem vc_loop_gh (up : α → List (Nat × S)) (Hs : α → Hp) (Inv : α → Prop) (μ : α → Nat)
    (h0 : Gh k0 (fun fr' H' => ∃ z, Inv z ∧ fr' = puts (up z) ∧ H' = Hs z) fr H)
    (step : ∀ z, Inv z → vc Γ k0 x (puts (up z)) (Hs z) (loopK k0 up Hs Inv μ z K)) : vcl Γ k0 x fr H K ⟨⟩ := by
  refine ⟨fun m fr' H' => ∃ z, Inv z ∧ fr' = puts (up z) ∧ H' = Hs z ∧ m = μ z, ?_, ?_⟩
  · clear step
    induction h0 with
    | done h => obtain ⟨z, h1, h2, h3⟩ := h; exact .done ⟨_, z, h1, h2, h3, rfl⟩
    | wk fr' hw _ ih => exact .wk fr' hw ih
    | cut k hk _ ih => exact .cut k hk ih
    | sel ns h1 h2 h3 _ ih => exact .sel ns h1 h2 h3 ih
    | kill n _ ih => exact .kill n ih
    | nil sl T sz h _ ih => exact .nil sl T sz h ih
    | nilc nm k T sz cs T' h1 h2 _ ih => exact .nilc nm k T sz cs T' h1 h2 ih
    | nf sl _ ih => exact .nf sl ih
    | pub n xs T sz h _ ih => exact .pub n xs T sz h ih
  · rintro m fr' H' ⟨z, hI, rfl, rfl, rfl⟩
    have e : loopK k0 up Hs Inv μ z K = fun e fr' H' => match e with
        | .n => Gh k0 (fun fr'' H'' => ∃ m', m' < μ z ∧ ∃ z', Inv z' ∧ fr'' = puts (up z') ∧ H'' = Hs z' ∧ m' = μ z') fr' H'
        | e => K e fr' H' := by
      funext e fr' H'; cases e <;> rfl
    have := step z hI
    rw [e] at this
    exact this
/-- On to the next round, with the own blocks picked and numbered anew. -/
theorem loop_sel (z' : α) (ns : List Nat) (h1 : Inv z') (h2 : μ z' < μ z) (h3 : ns.Nodup) (h4 : ∀ n ∈ ns, n < H.length) (h5 : ns.take k0 = List.range k0) (h6 : NextR' ns k0 up Hs z' fr H) : NextR k0 up Hs Inv μ z fr H ⟨⟩ :=
  .sel ns h3 h4 h5 (.wk _ (puts_wk' h6.1) (.done ⟨_, h2, z', h1, rfl, h6.2, rfl⟩))
/-- The state at a loop's head. -/
theorem gh_at (z : α) (L : Nat) (h1 : Inv z) (h2 : agree L fr (up z)) (h3 : (H.take L).map (B.ren (san L)) = Hs z) (h0 : k0 ≤ L := by decide) : Gh k0 (fun fr' H' => ∃ z, Inv z ∧ fr' = puts (up z) ∧ H' = Hs z) fr H :=
  .cut L h0 (.wk _ (puts_wk h2) (.done ⟨z, h1, rfl, h3⟩))
theorem vc_loop (up : α → List (Nat × S)) (Hs : α → Hp) (Inv : α → Prop) (μ : α → Nat) (z : α) (L : Nat) (h1 : Inv z) (h2 : agree L fr (up z)) (h3 : (H.take L).map (B.ren (san L)) = Hs z)
    (step : ∀ z, Inv z → vc Γ k0 x (puts (up z)) (Hs z) (loopK k0 up Hs Inv μ z K)) (h0 : k0 ≤ L := by decide) : vcl Γ k0 x fr H K ⟨⟩ :=
  vc_loop_gh up Hs Inv μ (.cut L h0 (.wk _ (puts_wk h2) (.done ⟨z, h1, rfl, h3⟩))) step
end
/-- A tail of the code, by what is told at its head. -/
theorem vc_tail {up : List (Nat × S)} {Hs : Hp} (L : Nat) (h : vc Γ k0 x.ungh (puts up) Hs K) (h1 : agree L fr up) (h2 : (H.take L).map (B.ren (san L)) = Hs) (hg : x.hgh = true := by rfl) (h0 : k0 ≤ L := by decide) : vcn Γ k0 x fr H K ⟨⟩ :=
  vc_head hg (.cut L h0 (.wk _ (puts_wk h1) (.done (by rw [h2]; exact h))))
end
section
variable (a : A) (l : List A) (g : Bool) (c : C) (cs : List C) (f : Nat → Option Nat) (n b o i j sz len cap k m : Nat) (v : Value) (T : TypeId) (xs ys : List (List C)) (x y : A) (H : Hp)
@[go_sem] theorem st_va : (S.va a).st = .va a := rfl
@[go_sem] theorem st_tu : (S.tu l).st = .tu l := rfl
@[go_sem] theorem st_cn : (S.cn g a).st = .va a := rfl
@[go_sem] theorem st_un : S.un.st = .un := rfl
@[go_sem] theorem gd_va : (S.va a).gd = True := rfl
@[go_sem] theorem gd_tu : (S.tu l).gd = True := rfl
@[go_sem] theorem gd_cn : (S.cn g a).gd = (g = true) := rfl
@[go_sem] theorem gd_un : S.un.gd = True := rfl
@[go_sem] theorem cnd_va : (S.va a).cnd g = .cn g a := rfl
@[go_sem] theorem cnd_tu : (S.tu l).cnd g = .un := rfl
@[go_sem] theorem cnd_un : S.un.cnd g = .un := rfl
@[go_sem] theorem ren_va : (S.va a).ren f = .va (a.ren f) := rfl
@[go_sem] theorem ren_tu : (S.tu l).ren f = .tu (l.map (A.ren f)) := rfl
@[go_sem] theorem ren_cn : (S.cn g a).ren f = .cn g (a.ren f) := rfl
@[go_sem] theorem ren_un : S.un.ren f = .un := rfl
@[go_sem] theorem ren_c1 : (A.c1 c).ren f = .c1 (c.ren f) := rfl
@[go_sem] theorem ren_gs : (A.gs cs).ren f = .gs (cs.map (C.ren f)) := rfl
@[go_sem] theorem ren_no : C.no.ren f = .no := rfl
@[go_sem] theorem ren_fn0 (k : FuncId) : (C.fn k []).ren f = .fn k [] := rfl
@[go_sem] theorem ren_vl : (C.vl v).ren f = .vl v := rfl
@[go_sem] theorem ren_pt : (C.pt n o).ren f = (match f n with | some m => .pt m o | none => .no) := rfl
@[go_sem] theorem ren_sl : (C.sl n len).ren f = (match f n with | some m => .sl m len | none => .no) := rfl
@[go_sem] theorem ren_qt : (C.qt n len sz i j).ren f = (match f n with | some m => .qt m len sz i j | none => .no) := rfl
@[go_sem] theorem ren_dp : (C.dp n len).ren f = (match f n with | some m => .dp m len | none => .no) := rfl
@[go_sem] theorem nf_dp : (C.dp n len).nf = .dp n len := rfl
@[go_sem] theorem ren_fz : (C.fz xs).ren f = .fz xs := rfl
@[go_sem] theorem ren_fp : (C.fp cs j).ren f = .fp cs j := rfl
@[go_sem] theorem renB_cells : (B.cells cs T).ren f = .cells (cs.map (C.ren f)) T := rfl
@[go_sem] theorem renB_row : (B.row xs T sz).ren f = .row xs T sz := rfl
@[go_sem] theorem renB_dead : B.dead.ren f = .dead := rfl
@[go_sem] theorem pub_va : (S.va a).pub n xs = .va (a.pub n xs) := rfl
@[go_sem] theorem pub_tu : (S.tu l).pub n xs = .tu (l.map (A.pub n xs)) := rfl
@[go_sem] theorem pub_cn : (S.cn g a).pub n xs = .cn g (a.pub n xs) := rfl
@[go_sem] theorem pub_un : S.un.pub n xs = .un := rfl
@[go_sem] theorem pub_c1 : (A.c1 c).pub n xs = .c1 (c.pub n xs) := rfl
@[go_sem] theorem pub_gs : (A.gs cs).pub n xs = .gs (cs.map (C.pub n xs)) := rfl
@[go_sem] theorem pub_vl : (C.vl v).pub n xs = .vl v := rfl
@[go_sem] theorem pub_no : C.no.pub n xs = .no := rfl
@[go_sem] theorem pub_pt : (C.pt k o).pub n xs = .pt k o := rfl
@[go_sem] theorem pub_sl : (C.sl m len).pub n xs = if m = n then (if len = xs.length then .fz xs else .no) else .sl m len := rfl
@[go_sem] theorem pub_fz : (C.fz ys).pub n xs = .fz ys := rfl
@[go_sem] theorem pub_fp : (C.fp cs j).pub n xs = .fp cs j := rfl
@[go_sem] theorem pubB_cells : (B.cells cs T).pub n xs = .cells (cs.map (C.pub n xs)) T := rfl
@[go_sem] theorem pubB_row : (B.row ys T sz).pub n xs = .row ys T sz := rfl
@[go_sem] theorem pubB_dead : B.dead.pub n xs = .dead := rfl
@[go_sem] theorem nf_va : (S.va a).nf = .va a.nf := rfl
@[go_sem] theorem nf_tu : (S.tu l).nf = .tu (l.map A.nf) := rfl
@[go_sem] theorem nf_cn : (S.cn g a).nf = .cn g a.nf := rfl
@[go_sem] theorem nf_un : S.un.nf = .un := rfl
@[go_sem] theorem nf_c1 : (A.c1 c).nf = .c1 c.nf := rfl
@[go_sem] theorem nf_gs : (A.gs cs).nf = .gs (cs.map C.nf) := rfl
@[go_sem] theorem nf_nil : (C.vl (.slice none 0 0)).nf = .fz [] := rfl
@[go_sem] theorem nf_int (k : IntKind) (z : Int) : (C.vl (.int k z)).nf = .vl (.int k z) := rfl
@[go_sem] theorem nf_bool : (C.vl (.bool g)).nf = .vl (.bool g) := rfl
@[go_sem] theorem nf_str (s : ByteArray) : (C.vl (.string s)).nf = .vl (.string s) := rfl
@[go_sem] theorem nf_ptr (p : Option Addr) : (C.vl (.pointer p)).nf = .vl (.pointer p) := rfl
@[go_sem] theorem nf_map (p : Option Nat) : (C.vl (.map p)).nf = .vl (.map p) := rfl
@[go_sem] theorem nf_ni : (C.vl .nilIface).nf = .vl .nilIface := rfl
@[go_sem] theorem nf_nfn : (C.vl .nilFunc).nf = .vl .nilFunc := rfl
@[go_sem] theorem nf_no : C.no.nf = .no := rfl
@[go_sem] theorem nf_pt : (C.pt n o).nf = .pt n o := rfl
@[go_sem] theorem nf_sl : (C.sl n len).nf = .sl n len := rfl
@[go_sem] theorem nf_qt : (C.qt n len sz i j).nf = .qt n len sz i j := rfl
@[go_sem] theorem nf_fz : (C.fz xs).nf = .fz xs := rfl
@[go_sem] theorem nf_fp : (C.fp cs j).nf = .fp cs j := rfl
@[go_sem] theorem nf_fn (q : FuncId) (ns : List Nat) : (C.fn q ns).nf = .fn q ns := rfl
@[go_sem] theorem bor_va : (S.va a).bor H = .va (a.bor H) := rfl
@[go_sem] theorem bor_tu : (S.tu l).bor H = .un := rfl
@[go_sem] theorem bor_un : S.un.bor H = .un := rfl
@[go_sem] theorem bor_c1 : (A.c1 c).bor H = .c1 (c.bor H) := rfl
@[go_sem] theorem bor_gs : (A.gs cs).bor H = .gs (cs.map (C.bor H)) := rfl
@[go_sem] theorem bor_vl : (C.vl v).bor H = .vl v := rfl
@[go_sem] theorem bor_no : C.no.bor H = .no := rfl
@[go_sem] theorem bor_pt : (C.pt n o).bor H = .no := rfl
@[go_sem] theorem bor_sl : (C.sl n len).bor H = (match H[n]? with
    | some (.row xs _ _) => if len = xs.length then .fz xs else .no
    | _ => .no) := rfl
@[go_sem] theorem bor_fz : (C.fz xs).bor H = .fz xs := rfl
@[go_sem] theorem bor_fp : (C.fp cs j).bor H = .fp cs j := rfl
@[go_sem] theorem bor_fn (q : FuncId) : (C.fn q []).bor H = .fn q [] := rfl
@[go_sem] theorem ok_c1 : (A.c1 c).ok = c.one := rfl
@[go_sem] theorem ok_gs : (A.gs cs).ok = True := rfl
@[go_sem] theorem cells_c1 : (A.c1 c).cells = [c] := rfl
@[go_sem] theorem cells_gs : (A.gs cs).cells = cs := rfl
@[go_sem] theorem one_pt : (C.pt n o).one = True := rfl
@[go_sem] theorem one_sl : (C.sl n len).one = True := rfl
@[go_sem] theorem one_qt : (C.qt n len sz i j).one = True := rfl
@[go_sem] theorem one_fz : (C.fz xs).one = True := rfl
@[go_sem] theorem one_fp : (C.fp cs j).one = True := rfl
@[go_sem] theorem one_fn (q : FuncId) (ns : List Nat) : (C.fn q ns).one = True := rfl
@[go_sem] theorem one_int (k : IntKind) (n : Int) : (C.vl (.int k n)).one = True := by simp [C.one, Value.oneCell']
@[go_sem] theorem one_bool (b : Bool) : (C.vl (.bool b)).one = True := by simp [C.one, Value.oneCell']
@[go_sem] theorem one_string (s : ByteArray) : (C.vl (.string s)).one = True := by simp [C.one, Value.oneCell']
@[go_sem] theorem one_pointer (p : Option Addr) : (C.vl (.pointer p)).one = True := by simp [C.one, Value.oneCell']
@[go_sem] theorem one_slice (p : Option Addr) : (C.vl (.slice p n m)).one = True := by simp [C.one, Value.oneCell']
@[go_sem] theorem one_map (p : Option Nat) : (C.vl (.map p)).one = True := by simp [C.one, Value.oneCell']
@[go_sem] theorem shut_vl : (C.vl v).shut = true := rfl
@[go_sem] theorem shut_fz : (C.fz xs).shut = true := rfl
@[go_sem] theorem mrg_b (p q r : Bool) : mrg p (.c1 (.vl (.bool q))) (.c1 (.vl (.bool r))) = .c1 (.vl (.bool (bif p then q else r))) := rfl
@[go_sem] theorem mrg_t : mrg true x y = x := by unfold mrg; split <;> rfl
@[go_sem] theorem mrg_f : mrg false x y = y := by unfold mrg; split <;> rfl
@[go_sem ↓] theorem ret_n (k0 : Nat) (rs : List RV) (K : S → Hp → Prop) (fr : Fr) (H : Hp) : retK k0 rs K .n fr H = vRs fr H rs fun l => Fin k0 K (tup l).nf H := rfl
@[go_sem ↓] theorem ret_r (k0 : Nat) (rs : List RV) (K : S → Hp → Prop) (fr : Fr) (H : Hp) : retK k0 rs K .r fr H = vRs fr H rs fun l => Fin k0 K (tup l).nf H := rfl
@[go_sem ↓] theorem ret_e (k0 : Nat) (rs : List RV) (K : S → Hp → Prop) (id : Nat) (fr : Fr) (H : Hp) : retK k0 rs K (.e id) fr H = False := rfl
end
/-- Elements that are known by a function. -/
@[go_sem ↓] theorem all_map {α : Type} (l : List α) (f : α → List C) (i : Nat) (p : List C → Prop) : (∀ r, (l.map f)[i]? = some r → p r) ↔ ∀ x, l[i]? = some x → p (f x) := by
  simp only [List.getElem?_map, Option.map_eq_some_iff]
  exact ⟨fun h x hx => h _ ⟨x, hx, rfl⟩, fun h r ⟨x, hx, e⟩ => by subst e; exact h x hx⟩
attribute [go_sem ↓] PC.ungh
@[go_sem ↓] theorem tt_and (A B : Prop) : ((true = true → A) ∧ (true = false → B)) = A := by simp
@[go_sem ↓] theorem ff_and (A B : Prop) : ((false = true → A) ∧ (false = false → B)) = B := by simp
theorem imp_dup (p q : Prop) : (p → p ∧ q) ↔ (p → q) := ⟨fun h hp => (h hp).2, fun h hp => ⟨hp, h hp⟩⟩
attribute [go_sem] imp_dup and_self Bool.not_eq_true'
attribute [go_sem] bl_mk mk_bl dum List.length_map List.map_append List.length_append
attribute [go_sem ↓] reduceIte
attribute [go_sem] reduceIte Nat.reduceEqDiff List.getD_cons_zero List.getD_cons_succ List.append_nil true_and and_true Option.map_some Option.map_none reduceCtorEq forall_const beq_true beq_false implies_true imp_self List.nil_append List.cons_append List.getElem?_cons_zero List.getElem?_cons_succ List.getElem?_nil
attribute [go_sem] Option.getD_some Option.getD_none List.map_cons List.map_nil List.length_cons List.length_nil Option.some.injEq false_implies true_implies List.nodup_nil List.nodup_cons List.not_mem_nil List.mem_cons or_false false_or not_false_eq_true List.set_cons_zero List.set_cons_succ List.headD_cons List.headD_nil List.tail_cons List.tail_nil
attribute [go_sem] Nat.zero_add Nat.add_zero List.take_zero List.take_succ_cons List.drop_zero List.drop_succ_cons Nat.reduceAdd Nat.reduceSub Nat.reduceLeDiff Nat.reduceLT Nat.reduceMul List.take_nil List.drop_nil Bool.cond_true Bool.cond_false beq_self_eq_true Bool.true_and Bool.and_true Bool.not_true Bool.not_false Option.isSome_some Option.isSome_none
attribute [go_sem] forall_eq forall_eq_or_imp Int.toNat_natCast List.take_length Int.reduceToNat Int.reduceNeg
theorem fin_eq {k0 : Nat} {K : S → Hp → Prop} {r r' : S} {H : Hp} (h : K r H) (e : r' = r) : Fin k0 K r' H := by rw [e]; exact .done h
@[simp] theorem cond_or (b x : Bool) : (bif b then true else x) = (b || x) := by cases b <;> rfl
@[simp] theorem cond_and (b x : Bool) : (bif b then x else false) = (b && x) := by cases b <;> rfl
attribute [go_sem] cond_or cond_and
theorem getD_some {α : Type} {l : List α} {i : Nat} (d : α) (h : i < l.length) : l[i]? = some (l.getD i d) := by rw [List.getD, List.getElem?_eq_getElem h]; rfl
@[go_sem] theorem inr_i64 (n : Int) : inr .i64 n ↔ -9223372036854775808 ≤ n ∧ n ≤ 9223372036854775807 := by
  simp [inr, IntKind.min, IntKind.max, IntKind.signed, IntKind.bits]
@[go_sem] theorem inr_u64 (n : Int) : inr .u64 n ↔ 0 ≤ n ∧ n ≤ 18446744073709551615 := by
  simp [inr, IntKind.min, IntKind.max, IntKind.signed, IntKind.bits]
@[go_sem] theorem inr_i32 (n : Int) : inr .i32 n ↔ -2147483648 ≤ n ∧ n ≤ 2147483647 := by
  simp [inr, IntKind.min, IntKind.max, IntKind.signed, IntKind.bits]
@[go_sem] theorem inr_u32 (n : Int) : inr .u32 n ↔ 0 ≤ n ∧ n ≤ 4294967295 := by
  simp [inr, IntKind.min, IntKind.max, IntKind.signed, IntKind.bits]
@[go_sem] theorem inr_u8 (n : Int) : inr .u8 n ↔ 0 ≤ n ∧ n ≤ 255 := by
  simp [inr, IntKind.min, IntKind.max, IntKind.signed, IntKind.bits]
@[go_sem] theorem inr_i8 (n : Int) : inr .i8 n ↔ -128 ≤ n ∧ n ≤ 127 := by
  simp [inr, IntKind.min, IntKind.max, IntKind.signed, IntKind.bits]
@[go_sem] theorem inr_u16 (n : Int) : inr .u16 n ↔ 0 ≤ n ∧ n ≤ 65535 := by
  simp [inr, IntKind.min, IntKind.max, IntKind.signed, IntKind.bits]
@[go_sem] theorem inr_i16 (n : Int) : inr .i16 n ↔ -32768 ≤ n ∧ n ≤ 32767 := by
  simp [inr, IntKind.min, IntKind.max, IntKind.signed, IntKind.bits]
theorem u8_beq {c : UInt8} (k : UInt8) {n : Int} (h : n = k.toNat := by rfl) : ((c.toNat : Int) == n) = (c == k) := by
  rw [Bool.eq_iff_iff]; simp only [beq_iff_eq]
  constructor
  · intro h2; exact UInt8.toNat_inj.1 (by omega)
  · rintro rfl; exact h.symm
theorem inr64 {n : Int} (h1 : -9223372036854775808 ≤ n) (h2 : n ≤ 9223372036854775807) : inr .i64 n := by
  simp [inr, IntKind.min, IntKind.max, IntKind.signed, IntKind.bits]; omega
/-- What holds of every byte. -/
theorem byte_all {p : UInt8 → Bool} (h : (List.range 256).all (fun n => p (UInt8.ofNat n)) = true) (c : UInt8) : p c = true := by
  have := List.all_eq_true.1 h c.toNat (by simpa using c.toNat_lt)
  simpa using this
end Go.W
