/- A set that is not there. -/
import Derived.Test.YtngmjggconefcaaLivK
import Derived.Test.YtngmjggconefcaaPd
namespace Go.Proofs.Ytngmjggconefcaa
open Go.W
abbrev noP : S := .va (.c1 (.vl (.pointer none)))
def n0Sp (r : S) : W.Spec := fun av H K =>
  match av, H with
  | [.va (.c1 (.vl (.pointer none)))], [] => K r []
  | _, _ => False
def n1Sp (r : S) : W.Spec := fun av H K =>
  match av, H with
  | [.va (.c1 (.vl (.pointer none))), .va (.c1 (.vl (.int .i64 _)))], [] => K r []
  | _, _ => False
def n2Sp (r : S) : W.Spec := fun av H K =>
  match av, H with
  | [.va (.c1 (.vl (.pointer none))), .va (.c1 (.vl (.int .i64 _))), .va (.c1 (.vl (.int .i64 _)))], [] => K r []
  | _, _ => False
def n3Sp (r : S) : W.Spec := fun av H K =>
  match av, H with
  | [.va (.c1 (.vl (.pointer none))), .va (.c1 (.vl (.int .i64 _))), .va (.c1 (.vl (.int .i64 _))), .va (.c1 (.vl (.int .i64 _)))], [] => K r []
  | _, _ => False
theorem n0_open {r : S} {av : List S} {H : Hp} {K : S → Hp → Prop} (h : n0Sp r av H K) : av = [noP] ∧ H = [] ∧ K r [] := by
  unfold n0Sp at h
  split at h
  · exact ⟨rfl, rfl, h⟩
  · exact h.elim
theorem n1_open {r : S} {av : List S} {H : Hp} {K : S → Hp → Prop} (h : n1Sp r av H K) : ∃ a : Int, av = [noP, iS .i64 a] ∧ H = [] ∧ K r [] := by
  unfold n1Sp at h
  split at h
  · exact ⟨_, rfl, rfl, h⟩
  · exact h.elim
theorem n2_open {r : S} {av : List S} {H : Hp} {K : S → Hp → Prop} (h : n2Sp r av H K) : ∃ a b : Int, av = [noP, iS .i64 a, iS .i64 b] ∧ H = [] ∧ K r [] := by
  unfold n2Sp at h
  split at h
  · exact ⟨_, _, rfl, rfl, h⟩
  · exact h.elim
theorem n3_open {r : S} {av : List S} {H : Hp} {K : S → Hp → Prop} (h : n3Sp r av H K) : ∃ a b c : Int, av = [noP, iS .i64 a, iS .i64 b, iS .i64 c] ∧ H = [] ∧ K r [] := by
  unfold n3Sp at h
  split at h
  · exact ⟨_, _, _, rfl, rfl, h⟩
  · exact h.elim
attribute [go_sem ↓] n0Sp n1Sp n2Sp n3Sp
theorem nNext : Meets Try.prog 16 (n0Sp (.tu [iA .i64 0, bA false])) := by
  refine meets_fn Try.func16 ok16 1 (by rw [Try.ntmps16]; decide) (meetsAll_nil _) (fun av H K h => by obtain ⟨rfl, _⟩ := n0_open h; rfl) ?_
  intro av H K h
  obtain ⟨rfl, rfl, hK⟩ := n0_open h
  simp -dsimp only [go_sem, pc16, rs16, Option.isNone_none]
  exact .done hK
theorem nAdd : Meets Try.prog 10 (n3Sp (iS .i64 6)) := by
  refine meets_fn Try.func10 ok10 4 (by rw [Try.ntmps10]; decide) (meetsAll_nil _) (fun av H K h => by obtain ⟨_, _, _, rfl, _⟩ := n3_open h; rfl) ?_
  intro av H K h
  obtain ⟨_, _, _, rfl, rfl, hK⟩ := n3_open h
  simp -dsimp only [go_sem, pc10, rs10, Option.isNone_none]
  exact .done hK
theorem nAssert : Meets Try.prog 11 (n2Sp (iS .i64 6)) := by
  refine meets_fn Try.func11 ok11 3 (by rw [Try.ntmps11]; decide) (meetsAll_nil _) (fun av H K h => by obtain ⟨_, _, rfl, _⟩ := n2_open h; rfl) ?_
  intro av H K h
  obtain ⟨_, _, rfl, rfl, hK⟩ := n2_open h
  simp -dsimp only [go_sem, pc11, rs11, Option.isNone_none]
  exact .done hK
theorem nRemove : Meets Try.prog 20 (n1Sp (iS .i64 6)) := by
  refine meets_fn Try.func20 ok20 2 (by rw [Try.ntmps20]; decide) (meetsAll_nil _) (fun av H K h => by obtain ⟨_, rfl, _⟩ := n1_open h; rfl) ?_
  intro av H K h
  obtain ⟨_, rfl, rfl, hK⟩ := n1_open h
  simp -dsimp only [go_sem, pc20, rs20, Option.isNone_none]
  exact .done hK
theorem nAlive : Meets Try.prog 12 (n1Sp (bS false)) := by
  refine meets_fn Try.func12 ok12 2 (by rw [Try.ntmps12]; decide) (meetsAll_nil _) (fun av H K h => by obtain ⟨_, rfl, _⟩ := n1_open h; rfl) ?_
  intro av H K h
  obtain ⟨_, rfl, rfl, hK⟩ := n1_open h
  simp -dsimp only [go_sem, pc12, rs12, Option.isNone_none]
  exact .done hK
theorem nCheck : Meets Try.prog 15 (n1Sp (.va (.c1 (.fz [])))) := by
  refine meets_fn Try.func15 ok15 2 (by rw [Try.ntmps15]; decide) (meetsAll_nil _) (fun av H K h => by obtain ⟨_, rfl, _⟩ := n1_open h; rfl) ?_
  intro av H K h
  obtain ⟨_, rfl, rfl, hK⟩ := n1_open h
  simp -dsimp only [go_sem, pc15, rs15]
  exact ⟨rfl, rfl, fun h => by simp at h, fun _ => .done hK⟩
def i3Pre : List S → Prop := fun xs => match xs with
  | [.va (.c1 (.vl (.int .i64 _))), .va (.c1 (.vl (.int .i64 _))), .va (.c1 (.vl (.int .i64 _)))] => True
  | _ => False
theorem i3Pre_open {xs : List S} (h : i3Pre xs) : ∃ a b c : Int, xs = [iS .i64 a, iS .i64 b, iS .i64 c] := by
  unfold i3Pre at h
  split at h
  · exact ⟨_, _, _, rfl⟩
  · exact h.elim
def nobFn : Fun := ⟨i3Pre, fun _ => bA true, fun xs _ => trivial⟩
theorem nobFn_len : ∀ xs H K, nobFn.sp xs H K → xs.length = 3 := fun xs H K h => by obtain ⟨_, _, _, rfl⟩ := i3Pre_open h.1.1; rfl
set_option maxRecDepth 100000 in
theorem mNobody : Meets Try.prog 7 nobFn.sp := by
  refine meets_fn Try.func7 ok7 3 (by rw [Try.ntmps7]; decide) (meetsAll_f mAwake (meetsAll_s nAdd (meetsAll_s nAssert (meetsAll_s nNext (meetsAll_s nCheck (meetsAll_s nAlive (meetsAll_s nRemove (meetsAll_nil _)))))))) nobFn_len ?_
  rintro av H K ⟨⟨h, rfl⟩, hK⟩
  obtain ⟨a, b, c, rfl⟩ := i3Pre_open h
  have hK' : K (bS true) [] := hK
  have z0 : ((((0 : Nat) : Int) == 0)) = true := rfl
  simp -dsimp only [go_sem, pc7, rs7, z0]
  exact .done hK'
end Go.Proofs.Ytngmjggconefcaa
