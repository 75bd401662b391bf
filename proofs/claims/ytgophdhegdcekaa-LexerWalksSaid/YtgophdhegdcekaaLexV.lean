/- The two Scanners, one beside the other: Peek, Next, Mark, Word. -/
import Derived.Test.YtgophdhegdcekaaLexT
import Derived.Test.YtgophdhegdcekaaPf
import Derived.Test.YtgophdhegdcekaaPn
namespace Go.Proofs.Ytgophdhegdcekaa
open Go.W
/-- The end stands last, and there alone. -/
structure Ends (ts : List Tk) : Prop where
  pos : 0 < ts.length
  le : ts.length ≤ 4001
  last : ∀ (i : Nat) (t : Tk), ts[i]? = some t → (t.k = 0 ↔ i + 1 = ts.length)
abbrev wkB (T : TypeId) (ts : List Tk) (n : Nat) : B := .cells [.fz (ts.map tkL), .vl (.int .i64 n)] T
theorem wkB_succ (T : TypeId) (ts : List Tk) (n : Nat) : wkB T ts (n + 1) = .cells [.fz (ts.map tkL), .vl (.int .i64 ((n : Int) + 1))] T := rfl
def wkSp (T : TypeId) (post : List Tk → Nat → (S → Hp → Prop) → Prop) : W.Spec := fun xs H K =>
  match xs, H with
  | [.va (.c1 (.pt 0 0))], [.cells [.fz r, .vl (.int .i64 a)] T'] => T' = T ∧ ∃ (ts : List Tk) (n : Nat), r = ts.map tkL ∧ a = n ∧ Ends ts ∧ n < ts.length ∧ post ts n K
  | _, _ => False
theorem wkSp_open {T : TypeId} {post : List Tk → Nat → (S → Hp → Prop) → Prop} {xs : List S} {H : Hp} {K : S → Hp → Prop} (h : wkSp T post xs H K) :
    ∃ ts n, xs = [.va (.c1 (.pt 0 0))] ∧ H = [wkB T ts n] ∧ Ends ts ∧ n < ts.length ∧ post ts n K := by
  unfold wkSp at h
  split at h
  · obtain ⟨rfl, ts, n, rfl, rfl, h1, h2, h3⟩ := h; exact ⟨ts, n, rfl, rfl, h1, h2, h3⟩
  · exact h.elim
theorem wkSp_len {T : TypeId} {post : List Tk → Nat → (S → Hp → Prop) → Prop} : ∀ xs H K, wkSp T post xs H K → xs.length = 1 := fun xs H K h => by obtain ⟨ts, n, rfl, _⟩ := wkSp_open h; rfl
attribute [go_sem ↓] wkSp
def nxt (ts : List Tk) (n : Nat) : Nat := if n + 1 < ts.length then n + 1 else n
def peekSp (T : TypeId) : W.Spec := wkSp T fun ts n K => ∀ t, ts[n]? = some t → K (.va (.gs (tkL t))) [wkB T ts n]
def stepSp (T : TypeId) : W.Spec := wkSp T fun ts n K => ∀ t, ts[n]? = some t → K (.va (.gs (tkL t))) [wkB T ts (nxt ts n)]
attribute [go_sem ↓] peekSp stepSp
set_option maxRecDepth 100000 in
theorem mPeek : Meets Try.prog 18 (peekSp 57) := by
  refine meets_fn Try.func18 ok18 1 (by rw [Try.ntmps18]; decide) (meetsAll_nil _) wkSp_len ?_
  intro xs H K h
  obtain ⟨ts, n, rfl, rfl, hE, hn, hK⟩ := wkSp_open h
  simp -dsimp only [go_sem, pc18, rs18]
  refine ⟨fun h => ?_, fun _ => ⟨by omega, fun t ht => .sel [0] (by simp) (by simp) rfl (.done (hK t ht))⟩⟩
  have := hE.pos; simp at h; simp [h] at this
set_option maxRecDepth 100000 in
theorem mPeekR : Meets Try.prog 19 (peekSp 36) := by
  refine meets_fn Try.func19 ok19 1 (by rw [Try.ntmps19]; decide) (meetsAll_nil _) wkSp_len ?_
  intro xs H K h
  obtain ⟨ts, n, rfl, rfl, hE, hn, hK⟩ := wkSp_open h
  simp -dsimp only [go_sem, pc19, rs19]
  exact ⟨fun h => by simp at h; omega, fun _ => ⟨by omega, fun t ht => .sel [0] (by simp) (by simp) rfl (.done (hK t ht))⟩⟩
set_option maxRecDepth 100000 in
theorem mStep : Meets Try.prog 16 (stepSp 57) := by
  refine meets_fn Try.func16 ok16 1 (by rw [Try.ntmps16]; decide) (meetsAll_s mPeek (meetsAll_nil _)) wkSp_len ?_
  intro xs H K h
  obtain ⟨ts, n, rfl, rfl, hE, hn, hK⟩ := wkSp_open h
  simp -dsimp only [go_sem, pc16, rs16]
  refine ⟨ts, n, rfl, rfl, hE, hn, fun t ht => ?_⟩
  have hK := hK t ht
  have hle := hE.le
  refine ⟨by omega, fun h => ⟨by omega, ?_⟩, fun h => ?_⟩
  · have e : nxt ts n = n + 1 := if_pos (by simp at h; omega)
    rw [e, wkB_succ] at hK
    exact .sel [0] (by simp) (by simp) rfl (.done hK)
  · have e : nxt ts n = n := if_neg (by simp at h; omega)
    rw [e] at hK
    exact .sel [0] (by simp) (by simp) rfl (.done hK)
set_option maxRecDepth 100000 in
theorem mStepR : Meets Try.prog 17 (stepSp 36) := by
  refine meets_fn Try.func17 ok17 1 (by rw [Try.ntmps17]; decide) (meetsAll_s mPeekR (meetsAll_nil _)) wkSp_len ?_
  intro xs H K h
  obtain ⟨ts, n, rfl, rfl, hE, hn, hK⟩ := wkSp_open h
  simp -dsimp only [go_sem, pc17, rs17]
  refine ⟨ts, n, rfl, rfl, hE, hn, fun t ht => ?_⟩
  have hK := hK t ht
  have hle := hE.le
  have hl := hE.last n t ht
  refine ⟨fun h => ⟨by omega, ?_⟩, fun h => ?_⟩
  · have e : nxt ts n = n + 1 := if_pos (by
      have : ¬ n + 1 = ts.length := fun e => by simp [hl.2 e] at h
      omega)
    rw [e, wkB_succ] at hK
    exact .sel [0] (by simp) (by simp) rfl (.done hK)
  · have e : nxt ts n = n := if_neg (by have := hl.1 (by simpa using h); omega)
    rw [e] at hK
    exact .sel [0] (by simp) (by simp) rfl (.done hK)
/-- A mark or a name, taken if it stands there. -/
def takA (k : Int) (w : List UInt8) (t : Tk) : Bool := t.k == k && t.x == w
def takN (k : Int) (w : List UInt8) (ts : List Tk) (n : Nat) (t : Tk) : Nat := bif takA k w t then nxt ts n else n
def markSp (k : Int) (T : TypeId) : W.Spec := fun xs H K =>
  match xs, H with
  | [.va (.c1 (.pt 0 0)), .va (.c1 (.vl (.string w)))], [.cells [.fz r, .vl (.int .i64 a)] T'] => T' = T ∧ ∃ (ts : List Tk) (n : Nat), r = ts.map tkL ∧ a = n ∧ Ends ts ∧ n < ts.length ∧
      ∀ t, ts[n]? = some t → K (bS (takA k (bl w) t)) [wkB T ts (takN k (bl w) ts n t)]
  | _, _ => False
theorem markSp_open {k : Int} {T : TypeId} {xs : List S} {H : Hp} {K : S → Hp → Prop} (h : markSp k T xs H K) :
    ∃ w ts n, xs = [.va (.c1 (.pt 0 0)), tS w] ∧ H = [wkB T ts n] ∧ Ends ts ∧ n < ts.length ∧ ∀ t, ts[n]? = some t → K (bS (takA k (bl w) t)) [wkB T ts (takN k (bl w) ts n t)] := by
  unfold markSp at h
  split at h
  · obtain ⟨rfl, ts, n, rfl, rfl, h1, h2, h3⟩ := h; exact ⟨_, ts, n, rfl, rfl, h1, h2, h3⟩
  · exact h.elim
theorem markSp_len {k : Int} {T : TypeId} : ∀ xs H K, markSp k T xs H K → xs.length = 2 := fun xs H K h => by obtain ⟨w, ts, n, rfl, _⟩ := markSp_open h; rfl
def takeSp (T : TypeId) : W.Spec := fun xs H K =>
  match xs, H with
  | [.va (.c1 (.pt 0 0)), .va (.c1 (.vl (.int .i64 k))), .va (.c1 (.vl (.string w)))], [.cells [.fz r, .vl (.int .i64 a)] T'] => T' = T ∧ ∃ (ts : List Tk) (n : Nat), r = ts.map tkL ∧ a = n ∧ Ends ts ∧ n < ts.length ∧
      ∀ t, ts[n]? = some t → K (bS (takA k (bl w) t)) [wkB T ts (takN k (bl w) ts n t)]
  | _, _ => False
theorem takeSp_open {T : TypeId} {xs : List S} {H : Hp} {K : S → Hp → Prop} (h : takeSp T xs H K) :
    ∃ k w ts n, xs = [.va (.c1 (.pt 0 0)), iS .i64 k, tS w] ∧ H = [wkB T ts n] ∧ Ends ts ∧ n < ts.length ∧ ∀ t, ts[n]? = some t → K (bS (takA k (bl w) t)) [wkB T ts (takN k (bl w) ts n t)] := by
  unfold takeSp at h
  split at h
  · obtain ⟨rfl, ts, n, rfl, rfl, h1, h2, h3⟩ := h; exact ⟨_, _, ts, n, rfl, rfl, h1, h2, h3⟩
  · exact h.elim
theorem takeSp_len {T : TypeId} : ∀ xs H K, takeSp T xs H K → xs.length = 3 := fun xs H K h => by obtain ⟨k, w, ts, n, rfl, _⟩ := takeSp_open h; rfl
attribute [go_sem ↓] markSp takeSp
set_option maxRecDepth 100000 in
theorem mTake : Meets Try.prog 37 (takeSp 57) := by
  refine meets_fn Try.func37 ok37 3 (by rw [Try.ntmps37]; decide) (meetsAll_s mPeek (meetsAll_s mStep (meetsAll_nil _))) takeSp_len ?_
  intro xs H K h
  obtain ⟨k, w, ts, n, rfl, rfl, hE, hn, hK⟩ := takeSp_open h
  simp -dsimp only [go_sem, pc37, rs37]
  refine ⟨ts, n, rfl, rfl, hE, hn, fun t ht => ?_⟩
  have hK := hK t ht
  have hg : (t.k != k || !t.x == bl w) = !(takA k (bl w) t) := by simp [takA, bne, Bool.not_and]
  rw [hg]
  refine ⟨fun h => ?_, fun h => ⟨ts, n, rfl, rfl, hE, hn, fun u hu => ?_⟩⟩
  · have h : takA k (bl w) t = false := by simpa using h
    simp only [takN, h, Bool.cond_false] at hK
    exact .sel [0] (by simp) (by simp) rfl (.done hK)
  · have h : takA k (bl w) t = true := by simpa using h
    simp only [takN, h, Bool.cond_true] at hK
    exact .sel [0] (by simp) (by simp) rfl (.done hK)
set_option maxRecDepth 100000 in
theorem mMarkS : Meets Try.prog 20 (markSp 4 57) := by
  refine meets_fn Try.func20 ok20 2 (by rw [Try.ntmps20]; decide) (meetsAll_s mTake (meetsAll_nil _)) markSp_len ?_
  intro xs H K h
  obtain ⟨w, ts, n, rfl, rfl, hE, hn, hK⟩ := markSp_open h
  simp -dsimp only [go_sem, pc20, rs20]
  refine ⟨ts, n, rfl, rfl, hE, hn, fun t ht => .done ?_⟩
  exact hK t ht
set_option maxRecDepth 100000 in
theorem mMarkR : Meets Try.prog 21 (markSp 4 36) := by
  refine meets_fn Try.func21 ok21 2 (by rw [Try.ntmps21]; decide) (meetsAll_s mPeekR (meetsAll_nil _)) markSp_len ?_
  intro xs H K h
  obtain ⟨w, ts, n, rfl, rfl, hE, hn, hK⟩ := markSp_open h
  simp -dsimp only [go_sem, pc21, rs21]
  refine ⟨ts, n, rfl, rfl, hE, hn, fun t ht => ?_⟩
  have hK := hK t ht
  have hle := hE.le
  have hl := hE.last n t ht
  have hg : (t.k != 4 || !t.x == bl w) = !(takA 4 (bl w) t) := by simp [takA, bne, Bool.not_and]
  rw [hg]
  refine ⟨fun h => ?_, fun h => ⟨by omega, ?_⟩⟩
  · have h : takA 4 (bl w) t = false := by simpa using h
    simp only [takN, h, Bool.cond_false] at hK
    exact .sel [0] (by simp) (by simp) rfl (.done hK)
  · have h : takA 4 (bl w) t = true := by simpa using h
    have hk : t.k = 4 := by simp [takA] at h; exact h.1
    have e : nxt ts n = n + 1 := if_pos (by
      have : ¬ n + 1 = ts.length := fun e => by have := hl.2 e; omega
      omega)
    simp only [takN, h, Bool.cond_true, e] at hK
    rw [wkB_succ] at hK
    exact .sel [0] (by simp) (by simp) rfl (.done hK)
set_option maxRecDepth 100000 in
theorem mWordS : Meets Try.prog 22 (markSp 1 57) := by
  refine meets_fn Try.func22 ok22 2 (by rw [Try.ntmps22]; decide) (meetsAll_s mTake (meetsAll_nil _)) markSp_len ?_
  intro xs H K h
  obtain ⟨w, ts, n, rfl, rfl, hE, hn, hK⟩ := markSp_open h
  simp -dsimp only [go_sem, pc22, rs22]
  refine ⟨ts, n, rfl, rfl, hE, hn, fun t ht => .done ?_⟩
  exact hK t ht
set_option maxRecDepth 100000 in
theorem mWordR : Meets Try.prog 23 (markSp 1 36) := by
  refine meets_fn Try.func23 ok23 2 (by rw [Try.ntmps23]; decide) (meetsAll_s mPeekR (meetsAll_nil _)) markSp_len ?_
  intro xs H K h
  obtain ⟨w, ts, n, rfl, rfl, hE, hn, hK⟩ := markSp_open h
  simp -dsimp only [go_sem, pc23, rs23]
  refine ⟨ts, n, rfl, rfl, hE, hn, fun t ht => ?_⟩
  have hK := hK t ht
  have hle := hE.le
  have hl := hE.last n t ht
  have hg : (t.k != 1 || !t.x == bl w) = !(takA 1 (bl w) t) := by simp [takA, bne, Bool.not_and]
  rw [hg]
  refine ⟨fun h => ?_, fun h => ⟨by omega, ?_⟩⟩
  · have h : takA 1 (bl w) t = false := by simpa using h
    simp only [takN, h, Bool.cond_false] at hK
    exact .sel [0] (by simp) (by simp) rfl (.done hK)
  · have h : takA 1 (bl w) t = true := by simpa using h
    have hk : t.k = 1 := by simp [takA] at h; exact h.1
    have e : nxt ts n = n + 1 := if_pos (by
      have : ¬ n + 1 = ts.length := fun e => by have := hl.2 e; omega
      omega)
    simp only [takN, h, Bool.cond_true, e] at hK
    rw [wkB_succ] at hK
    exact .sel [0] (by simp) (by simp) rfl (.done hK)
end Go.Proofs.Ytgophdhegdcekaa
