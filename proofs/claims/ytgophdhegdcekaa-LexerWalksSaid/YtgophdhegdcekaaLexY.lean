/- The law of the walks: its function returns true. -/
import Derived.Test.YtgophdhegdcekaaLexX
import Derived.Test.YtgophdhegdcekaaPg
namespace Go.Proofs.Ytgophdhegdcekaa
open Go.W
theorem meetsAll_b {P : Program} {f : FuncId} {s : W.Spec} {p : Fun} {Γ : W.Env} (h : Meets P f s) (h2 : Meets P f p.sp) (hr : MeetsAll P Γ) : MeetsAll P ((f, ⟨s, some p⟩) :: Γ) := by
  intro g t hm
  rcases List.mem_cons.1 hm with he | hm
  · simp only [Prod.mk.injEq] at he; obtain ⟨rfl, rfl⟩ := he; exact ⟨h, fun q hq => by obtain rfl := Option.some.inj hq; exact h2⟩
  · exact hr g t hm
def walkPre : List S → Prop := fun xs => match xs with
  | [.va (.c1 (.vl (.string _))), .va (.c1 (.fz r)), .va (.c1 (.vl (.string _)))] => ∃ l : List UInt8, r = l.map u8C
  | _ => False
theorem walkPre_open {xs : List S} (h : walkPre xs) : ∃ (s : ByteArray) (l : List UInt8) (w : ByteArray), xs = [tS s, .va (.c1 (.fz (l.map u8C))), tS w] := by
  unfold walkPre at h
  split at h
  · obtain ⟨l, rfl⟩ := h; exact ⟨_, l, _, rfl⟩
  · exact h.elim
def walkFn : Fun := ⟨walkPre, fun _ => bA true, fun xs _ => trivial⟩
theorem walkFn_len : ∀ xs H K, walkFn.sp xs H K → xs.length = 3 := fun xs H K h => by obtain ⟨s, l, w, rfl⟩ := walkPre_open h.1.1; rfl
attribute [go_sem] walkFn walkPre
theorem offs_ends {l : List UInt8} {ts : List Tk} (h : Offs l 0 ts) (hl : l.length ≤ 4000) : Ends ts :=
  ⟨offs_ne h, by have := offs_len h; omega, fun i t ht => (offs_at h ht).2.2.2.1⟩
theorem nxt_lt {ts : List Tk} {n : Nat} (h : n < ts.length) : nxt ts n < ts.length := by unfold nxt; split <;> omega
theorem takN_lt {k : Int} {w : List UInt8} {ts : List Tk} {n : Nat} {t : Tk} (h : n < ts.length) : takN k w ts n t < ts.length := by unfold takN; cases takA k w t <;> simp [h, nxt_lt h]
set_option maxRecDepth 100000 in
theorem mWalks : Meets Try.prog 6 walkFn.sp := by
  refine meets_fn Try.func6 Wk.ok6 3 (by rw [Try.ntmps6]; decide)
    (meetsAll_f mAwake (meetsAll_s mNew (meetsAll_s mNewR (meetsAll_b mStep mStepN (meetsAll_s mStepR (meetsAll_b mPeek mPeekN (meetsAll_s mPeekR (meetsAll_b mMarkS mMarkN (meetsAll_s mMarkR (meetsAll_b mWordS mWordN (meetsAll_s mWordR (meetsAll_nil _)))))))))))) walkFn_len ?_
  rintro xs H K ⟨⟨h, rfl⟩, hK⟩
  obtain ⟨s, l, w, rfl⟩ := walkPre_open h
  simp -dsimp only [go_sem, Wk.pc6, Wk.rs6] at hK ⊢
  refine ⟨fun _ => .done hK, fun hl => ⟨fun he => ?_, fun he => ?_⟩⟩
  · rcases scanR_told (bl s) with ⟨h1, _⟩ | ⟨h1, h2, h3, h4⟩
    · exact absurd he h1
    have hE := offs_ends h4 h3
    generalize (scanR (bl s)).toks = ts at hE h4 ⊢
    refine ⟨fun h => by simp [h1, h2] at h, fun _ => ?_⟩
    refine vc_loop (α := Nat × Nat) (fun z => [(1, .va (.c1 (.fz (l.map u8C)))), (2, tS w), (7, .va (.c1 (.pt 0 0))), (8, iS .i64 0), (10, .va (.c1 (.pt 1 0))), (13, iS .i64 z.1)]) (fun z => [wkB 57 ts z.2, wkB 36 ts z.2])
      (fun z => z.1 ≤ l.length ∧ z.2 < ts.length) (fun z => l.length - z.1) (0, 0) 2 ⟨by simp, hE.pos⟩ ?_ ?_ ?_
    · simp -dsimp only [go_sem] <;> simp
    · simp -dsimp only [go_sem] <;> rfl
    rintro ⟨i, n⟩ ⟨hi, hn⟩
    simp only at hi hn
    simp -dsimp only [go_sem]
    refine ⟨fun hlt => ⟨⟨by omega, by simpa using hlt⟩, fun b hb => ?_⟩, fun hge => ?_⟩
    · have hlt : i < l.length := (List.getElem?_eq_some_iff.1 hb).1
      have hl60 : l.length ≤ 60 := by simp at hl; omega
      refine ⟨by decide, fun _ => ?_, fun _ => ⟨fun _ => ?_, fun _ => ⟨fun _ => ?_, fun _ => ?_⟩⟩⟩
      · refine ⟨ts, n, rfl, rfl, hE, hn, fun t ht => ⟨ts, n, rfl, rfl, hE, hn, fun u hu => ?_⟩⟩
        rw [ht] at hu
        obtain rfl := Option.some.inj hu
        simp only [beq_self_eq_true, Bool.and_self, Bool.not_true, Bool.true_eq_false, false_implies, true_implies, true_and]
        refine ⟨by omega, loop_next (i + 1, nxt ts n) 2 ⟨by simp only; omega, nxt_lt hn⟩ (by simp only; omega) ?_ ?_⟩
        · simp -dsimp only [go_sem] <;> simp
        · simp -dsimp only [go_sem] <;> rfl
      · refine ⟨ts, n, rfl, rfl, hE, hn, fun t ht => ⟨ts, n, rfl, rfl, hE, hn, fun u hu => ?_⟩⟩
        rw [ht] at hu
        obtain rfl := Option.some.inj hu
        simp only [beq_self_eq_true, Bool.and_self, Bool.not_true, Bool.true_eq_false, false_implies, true_implies, true_and]
        refine ⟨by omega, loop_next (i + 1, n) 2 ⟨by simp only; omega, hn⟩ (by simp only; omega) ?_ ?_⟩
        · simp -dsimp only [go_sem] <;> simp
        · simp -dsimp only [go_sem] <;> rfl
      · refine ⟨ts, n, rfl, rfl, hE, hn, fun t ht => ⟨ts, n, rfl, rfl, hE, hn, fun u hu => ?_⟩⟩
        rw [ht] at hu
        obtain rfl := Option.some.inj hu
        simp only [beq_self_eq_true, Bool.and_self, Bool.not_true, Bool.true_eq_false, false_implies, true_implies, true_and]
        refine ⟨by omega, loop_next (i + 1, takN 4 (bl w) ts n t) 2 ⟨by simp only; omega, takN_lt hn⟩ (by simp only; omega) ?_ ?_⟩
        · simp -dsimp only [go_sem] <;> simp
        · simp -dsimp only [go_sem] <;> rfl
      · refine ⟨ts, n, rfl, rfl, hE, hn, fun t ht => ⟨ts, n, rfl, rfl, hE, hn, fun u hu => ?_⟩⟩
        rw [ht] at hu
        obtain rfl := Option.some.inj hu
        simp only [beq_self_eq_true, Bool.and_self, Bool.not_true, Bool.true_eq_false, false_implies, true_implies, true_and]
        refine ⟨by omega, loop_next (i + 1, takN 1 (bl w) ts n t) 2 ⟨by simp only; omega, takN_lt hn⟩ (by simp only; omega) ?_ ?_⟩
        · simp -dsimp only [go_sem] <;> simp
        · simp -dsimp only [go_sem] <;> rfl
    · exact .sel [] (by simp) (by simp) rfl (.done hK)
  · rcases scanR_told (bl s) with ⟨h1, h2, h3, h4⟩ | ⟨h1, _⟩
    · have hz : ((scanR (bl s)).err == 0) = false := by simpa using h1
      rw [h2]
      refine ⟨fun h => by simp [hz] at h, fun _ => ?_⟩
      refine vc_loop (α := Unit) (fun _ => [(1, .va (.c1 (.fz (l.map u8C)))), (2, tS w), (8, iS .i64 (scanR (bl s)).err), (13, iS .i64 0)]) (fun _ => [wkB 36 [] 0]) (fun _ => True) (fun _ => 0) () 1 trivial ?_ ?_ ?_
      · simp -dsimp only [go_sem] <;> simp
      · simp -dsimp only [go_sem] <;> rfl
      rintro ⟨⟩ -
      simp -dsimp only [go_sem, hz]
      refine ⟨fun h => by simp at h, fun _ => ?_⟩
      exact .sel [] (by simp) (by simp) rfl (.done hK)
    · exact absurd h1 he
end Go.Proofs.Ytgophdhegdcekaa
