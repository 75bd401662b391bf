/- The set of leases: Remove. -/
import Derived.Test.YtngmjggconefcaaLivS
import Derived.Test.YtngmjggconefcaaLivP
namespace Go.Proofs.Ytngmjggconefcaa
open Go.W
def rmE (s : Ls) (id : Int) : Int := bif decide (findL s.all id 0 < 0) then 6 else 0
def rmL (s : Ls) (id : Int) : Ls := bif decide (findL s.all id 0 < 0) then s else ⟨s.now, s.all.eraseIdx (findL s.all id 0).toNat, s.pend⟩
def rmSp : W.Spec := fun av H K =>
  match av, H with
  | [.va (.c1 (.pt 0 0)), .va (.c1 (.vl (.int .i64 id)))], [.cells [.vl (.int .i64 now), .sl 1 na, .sl 2 np] 59, .row ra 63 4, .row rp 44 3] =>
    isFit now ra rp na np ∧ (decide (findL (ra.map C.lz) id 0 < 0) = true → K (iS .i64 6) [.cells [.vl (.int .i64 now), .sl 1 na, .sl 2 np] 59, .row ra 63 4, .row rp 44 3]) ∧
      (decide (findL (ra.map C.lz) id 0 < 0) = false → K (iS .i64 0) [.cells [.vl (.int .i64 now), .sl 3 (na - 1), .sl 2 np] 59, .dead, .row rp 44 3, .row (((ra.map C.lz).eraseIdx (findL (ra.map C.lz) id 0).toNat).map lzC) 63 4])
  | _, _ => False
theorem rmSp_open {av : List S} {H : Hp} {K : S → Hp → Prop} (h : rmSp av H K) : ∃ (s : Ls) (id : Int), av = [.va (.c1 (.pt 0 0)), iS .i64 id] ∧ H = lsH s ∧ s.fit ∧ (decide (findL s.all id 0 < 0) = true → K (iS .i64 6) (lsH s)) ∧
    (decide (findL s.all id 0 < 0) = false → K (iS .i64 0) [.cells [.vl (.int .i64 s.now), .sl 3 (s.all.length - 1), .sl 2 s.pend.length] 59, .dead, .row (s.pend.map chC) 44 3, .row ((s.all.eraseIdx (findL s.all id 0).toNat).map lzC) 63 4]) := by
  unfold rmSp at h
  split at h
  · rename_i id now na np ra rp
    obtain ⟨⟨s, rfl, rfl, rfl, rfl, rfl, hs⟩, hK⟩ := h
    rw [lz_map] at hK
    exact ⟨s, id, rfl, rfl, hs, hK⟩
  · exact h.elim
attribute [go_sem ↓] rmSp
set_option maxRecDepth 100000 in
theorem mRemove : Meets Try.prog 20 rmSp := by
  refine meets_fn Try.func20 ok20 2 (by rw [Try.ntmps20]; decide) (meetsAll_s mFind (meetsAll_s mDelete (meetsAll_nil _))) (fun av H K h => by obtain ⟨_, _, rfl, _⟩ := rmSp_open h; rfl) ?_
  intro av H K h
  obtain ⟨s, id, rfl, rfl, hs, hK1, hK2⟩ := rmSp_open h
  have hal := hs.al
  have hl : isLs (s.all.map lzC) (s.pend.map chC) s.all.length s.pend.length := isLs_mk hs.ok
  obtain ⟨F, hF⟩ : ∃ F, F = findL s.all id 0 := ⟨_, rfl⟩
  rw [← hF] at hK1 hK2
  cases h1 : decide (F < 0) with
  | true =>
    have hK := hK1 h1
    simp -dsimp only [go_sem, pc20, rs20, hl, ← hF, h1]
    exact .done hK
  | false =>
    have h0 : 0 ≤ F := by simp at h1; omega
    obtain ⟨_, x0, hx0, hxid⟩ := findL_get s.all id 0 (by omega)
    rw [← hF, Nat.sub_zero] at hx0
    have hFl := (List.getElem?_eq_some_iff.1 hx0).1
    have hK := hK2 h1
    rw [← map_erase] at hK
    have hex : ∃ L : List Lz, s.all.map lzC = L.map lzC ∧ L.length = s.all.length := ⟨_, rfl, rfl⟩
    simp -dsimp only [go_sem, pc20, rs20, hl, ← hF, h1, hex]
    and_intros
    all_goals first
      | omega
      | skip
    exact .done hK
end Go.Proofs.Ytngmjggconefcaa
