/- Proved: roboticslaw06.LexerWalks returns true at every two strings and every slice of bytes, and changes nothing that stood before. Conditions: none beyond the given statement. -/
import Derived.Test.YtgophdhegdcekaaRows
import Derived.Test.YtgophdhegdcekaaLexY
import Derived.Test.YtgophdhegdcekaaW16
import Derived.WalkKit
import Derived.ProofKit
import Derived.OpenShut
import Derived.ChangeSlices
namespace Go.Proofs.Ytgophdhegdcekaa.walks
open Go.ChangeShapes Go.ChangeMaps Go.WideShapes Go.ChangeAt Go.RowKit
theorem own : ownKnob Try.prog.godebug = none := by kernel_rfl
/-- A slice of bytes that stands in memory, as frozen memory. -/
theorem fz_bytes (l : List UInt8) (b off cap : Nat) (hc : l.length ≤ cap) :
    Go.W.FzR (fun b' o' => if b' = b ∧ off ≤ o' then (l[o' - off]?).map fun c => Value.int .u8 c.toNat else none) (l.map u8C) (.slice (some ⟨b, off, none⟩) l.length cap) := by
  have hf : (l.map u8C).flatten = l.map fun c => Go.W.C.vl (.int .u8 c.toNat) := by
    induction l with
    | nil => rfl
    | cons c l ih => rw [List.map_cons, List.flatten_cons, ih (by simp at hc; omega)]; rfl
  have h := Go.W.FzR.mk (ro := fun b' o' => if b' = b ∧ off ≤ o' then (l[o' - off]?).map fun c => Value.int .u8 c.toNat else none) (l.map u8C) 1 (some (b, off)) cap (fun k => .int .u8 (l.getD k 0).toNat)
    (by simp [u8C]) (by simpa using hc) (fun _ => rfl)
    (fun k c h => by
      rw [hf] at h; simp at h; obtain ⟨x, hx, rfl⟩ := h
      simp [hx, List.getD])
    (fun k v h => by
      rw [hf] at h; simp at h; obtain ⟨x, hx, rfl⟩ := h
      simp [hx, List.getD])
    (fun k ys h => by rw [hf] at h; simp at h)
    (fun c h => by rw [hf] at h; simp at h; obtain ⟨x, _, rfl⟩ := h; rfl)
  simpa [Go.W.roA] using h
theorem walk (s w : ByteArray) (l : List UInt8) (v : Value) (W : World) (ro : Go.W.RO) (hro : ∀ (b off : Nat) (u : Value), ro b off = some u → W.cell? ⟨b, off, none⟩ = some u) (hv : Go.W.FzR ro (l.map u8C) v) :
    Calls Try.prog 6 #[.string s, v, .string w] W fun e w' => e = .returned (.bool true) ∧ Go.W.Stay W w' :=
  mWalks.yes (av := [Go.W.tS s, .va (.c1 (.fz (l.map u8C))), Go.W.tS w]) (vs := [.string s, v, .string w]) (ro := ro) ⟨l, rfl⟩ rfl rfl
    (fun i x v h1 h2 => by
      match i with
      | 0 => cases h1; cases h2; rfl
      | 1 => cases h1; cases h2; exact hv
      | 2 => cases h1; cases h2; rfl
      | i + 3 => cases h1) hro
theorem zs_bytes {zs : List Int} (h : ∀ n ∈ zs, (Lit.int .u8 n).wf = true) : ∃ l : List UInt8, l.length = zs.length ∧ ∀ (i : Nat) (c : UInt8), l[i]? = some c → zs.getD i 0 = c.toNat := by
  refine ⟨zs.map fun n => n.toNat.toUInt8, by simp, fun i c hc => ?_⟩
  simp at hc
  obtain ⟨n, hn, rfl⟩ := hc
  have := bounds_u8 (h n (List.mem_of_getElem? hn))
  simp [List.getD, hn, Nat.toUInt8, UInt8.toNat_ofNat']
  omega
theorem contract (H : Type) (enc : TypeId × Value → H) (W : World) (base : Nat) (args : Array Value) (ds gs : List (DataW H)) (before : List MemPlace)
    (hval : ∀ (j : Nat) t v, Try.f6.params[j]? = some t → args[j]? = some v → Value.okWide Try.prog W .any base t v)
    (hW : DataW.Whole enc Try.prog Try.f6.params.toList Rows.lexerWalksSpec.vars false W args.toList ds gs before) :
    Calls Try.prog 6 args W fun e W' => ∃ v, e = .returned v ∧ Rows.lexerWalksSpec.post enc Try.prog Try.f6 false true false false W args v W' := by
  have hW' := hW
  obtain ⟨p, q, hA0, hV, rfl, hfz, hnd⟩ := hW
  have hA : DataW.TrodAll enc Try.prog W 0 (fun _ => true) true Try.f6.params.toList args.toList ds p := hA0
  rw [Try.params6] at hA hval
  obtain ⟨v0, vs0, d0, ds0, p0, q0, hargs, rfl, rfl, h0, r0⟩ := trodAll_cons hA
  obtain ⟨v1, vs1, d1, ds1, p1, q1, rfl, rfl, rfl, h1, r1⟩ := trodAll_cons r0
  obtain ⟨v2, vs2, d2, ds2, p2, q2, rfl, rfl, rfl, h2, r2⟩ := trodAll_cons r1
  obtain ⟨rfl, rfl, rfl⟩ := trodAll_nil r2
  obtain rfl : args = #[v0, v1, v2] := by cases args; simp_all
  obtain ⟨rfl, rfl⟩ := trodVars_none hV
  obtain ⟨s, rfl, rfl, rfl, hs⟩ := open_string Try.underlying9 (hval 0 9 v0 rfl rfl) h0
  obtain ⟨w, rfl, rfl, rfl, hw⟩ := open_string Try.underlying9 (hval 2 9 v2 rfl rfl) h2
  have hk1 := hval 1 31 v1 rfl rfl
  obtain ⟨fuel, hf⟩ := h1
  have hcl : ∀ (o : Option Addr) (n m : Nat), v1.cells.toList = [.slice o n m] → v1 = .slice o n m := by
    intro o n m h
    cases v1 <;> simp_all [Value.cells, Value.okWide, Cell.okWide, Cell.ok, Try.underlying31]
  rcases open_ints Try.underlying31 Try.underlying5 (by kernel_rfl) hf with ⟨hc, hx⟩ | ⟨a, len, cap, zs, hc, hb, hl, hm, hz, hx, hcell, hwf⟩
  · obtain rfl := hcl _ _ _ hc
    obtain ⟨rfl, rfl⟩ := Prod.mk.inj hx
    clear hA0
    have hfz : Go.W.FzR (fun _ _ => none) (([] : List UInt8).map u8C) (.slice none 0 0) :=
      Go.W.FzR.mk [] 1 none 0 (fun _ => .bool true) (by simp) (by simp) (by simp) (by simp) (by simp) (by simp) (by simp)
    simp only [List.append_nil, List.nil_append] at hW'
    refine (walk s w [] _ W (fun _ _ => none) (fun _ _ _ h => by cases h) hfz).mono fun e W' ⟨he, hg⟩ => ?_
    subst he
    exact ⟨_, rfl, Go.W.post_of_stay (pa := []) (pv := []) hW' (fun _ _ _ => (trodAll_cons_mk (shut_bool Try.underlying4 _) trodAll_mk0))
      (fun sp _ => trodAll_cons_mk (shut_string Try.underlying9 hs) (trodAll_cons_mk (p := []) ⟨1, by simp [DataW.trod, Value.cells, Try.underlying31]⟩ (trodAll_cons_mk (shut_string Try.underlying9 hw) trodAll_mk0)))
      (fun _ _ => rfl) rfl hg (ok_one (by kernel_rfl) rfl (okWide_bool_mk Try.underlying4 _))⟩
  · obtain rfl := hcl _ _ _ hc
    have hsp : a.spot = none := by
      simp [Value.okWide, Cell.okWide, Cell.ok, World.has, Try.underlying31] at hk1
      exact hk1.2.2.2.1
    obtain ⟨b, off, spot⟩ := a
    obtain rfl : spot = none := hsp
    obtain ⟨rfl, rfl⟩ := Prod.mk.inj hx
    obtain ⟨L, hLl, hLv⟩ := zs_bytes hwf
    have hz : zs.length = cap := by simpa using hz
    have hlen : (L.take len).length = len := by simp; omega
    have hfz := fz_bytes (L.take len) b off cap (by omega)
    rw [hlen] at hfz
    clear hA0
    refine (walk s w (L.take len) _ W _ (fun b' o' u h => ?_) hfz).mono fun e W' ⟨he, hg⟩ => ?_
    · split at h
      · rename_i hbo
        obtain ⟨rfl, ho⟩ := hbo
        obtain ⟨c, hc1, rfl⟩ := Option.map_eq_some_iff.1 h
        have hc2 : L[o' - off]? = some c := by
          rw [List.getElem?_take] at hc1
          split at hc1
          · exact hc1
          · cases hc1
        have hlt := (List.getElem?_eq_some_iff.1 hc2).1
        have := hcell (o' - off) (by omega)
        rw [hLv _ _ hc2, Go.WideShapes.add_plain, show off + (o' - off) = o' by omega] at this
        exact this
      · cases h
    · subst he
      have hin : ∀ j, j < zs.length → b < W.heap.size := fun j hj => by
        have := hcell j hj
        rw [Go.WideShapes.add_plain] at this
        unfold World.cell? at this
        rcases Nat.lt_or_ge b W.heap.size with h | h
        · exact h
        · rw [Array.getElem?_eq_none h] at this; cases this
      exact ⟨_, rfl, Go.W.post_of_stay (pa := [] ++ (MemPlace.row ⟨b, off, none⟩ zs.length ++ ([] ++ []))) (pv := []) hW' (fun _ _ _ => (trodAll_cons_mk (shut_bool Try.underlying4 _) trodAll_mk0))
        (fun sp hsp => trodAll_cons_mk (shut_string Try.underlying9 hs) (trodAll_cons_mk ⟨2, shut_ints 0 Try.underlying31 Try.underlying5 (by kernel_rfl) (Nat.zero_le _) hl hm (by
            rcases Nat.eq_zero_or_pos zs.length with h0 | h0
            · split <;> omega
            · have : sp b = true := hsp (.cell b off) (by have hm : MemPlace.cell b off ∈ MemPlace.row ⟨b, off, none⟩ zs.length := MemPlace.mem_row.2 ⟨0, h0, rfl⟩; simpa using hm)
              simp [this, hz]) (fun j hj => by
            rw [hg.cell (a := (Addr.mk b off none).add j) (by rw [Go.WideShapes.add_plain]; exact hin j hj)]; exact hcell j hj) hwf⟩ (trodAll_cons_mk (shut_string Try.underlying9 hw) trodAll_mk0)))
        (fun _ _ => rfl) rfl hg (ok_one (by kernel_rfl) rfl (okWide_bool_mk Try.underlying4 _))⟩
set_option maxRecDepth 100000 in
theorem lifted (os : Os) (started : os.Started) (H : Type) (enc : TypeId × Value → H) :
    ReturnsInHanded {} Try.checked os 6 .any (Rows.lexerWalksSpec.pre6 enc Try.prog Try.f6 Rows.lexerWalksRow.domain false) (Rows.lexerWalksSpec.post enc Try.prog Try.f6 false true false false) := by
  refine returnsInHanded_of_change (C := Try.checked) own started (by kernel_rfl) Try.func6
    (ChangeSpec.witness6 (enc := enc) (C := Try.checked) false ⟨#[], #[.string ⟨#[]⟩, .slice none 0 0, .string ⟨#[]⟩], []⟩ 8 (by kernel_rfl) (by kernel_rfl) (by kernel_rfl) (by kernel_rfl)) ?_
  intro W base args ds gs before hval hW _ _
  exact contract H enc W base args ds gs before hval hW
theorem proved : Rows.LexerWalksSaid :=
  OpenClaim.holds_of_wide 6 Try.f6 rfl rfl rfl rfl rfl rfl rfl ⟨rfl, rfl, rfl, rfl, rfl⟩ rfl rfl rfl rfl rfl (by kernel_rfl) Try.func6 (by kernel_rfl)
    (of_decide_eq_true (by kernel_rfl)) (by unfold Func.isWrapper; first | (rw [if_pos (by decide +kernel)]; kernel_rfl) | (rw [if_neg (by decide +kernel)]; exact ⟨rfl, rfl⟩))
    (fun os started H enc _ => lifted os started H enc)
end Go.Proofs.Ytgophdhegdcekaa.walks
