/- Numbers, in plain Lean. -/
import Derived.Test.YtikfmmfifhnbjaaPu
import Derived.Test.YtikfmmfifhnbjaaX1
import Derived.Laws.BitsLemmas
namespace Go.Proofs.Ytikfmmfifhnbjaa
open Go Go.RowKit
set_option linter.unusedVariables false
set_option linter.unusedSimpArgs false

theorem p_within (fuel : Nat) (x lo hi : Int) : m_impl_within fuel x lo hi = some (inB x lo hi) := by
  unfold m_impl_within inB; split <;> simp_all <;> omega
theorem p_l1In (fuel : Nat) (x lo hi : Int) : m_spec_l1In fuel x lo hi = some (inB x lo hi) := by
  unfold m_spec_l1In inB; split <;> simp_all <;> omega
/-! One operation. -/
def opB (a b c d : Int) : Bool :=
  if a = 1 then inB b 0 3 && inB c 0 65535 && decide (d = 0)
  else if a = 2 ∨ a = 3 ∨ a = 4 then inB b 0 3 && inB c 0 3 && inB d 0 3
  else if a = 5 then inB b 0 3 && inB c 0 7 && decide (d = 0)
  else if a = 6 then inB b 0 7 && inB c 0 3 && decide (d = 0)
  else if a = 7 then inB b 0 3 && inB c 1 20 && decide (d = 0)
  else if a = 8 ∨ a = 15 ∨ a = 16 then inB b 0 3 && decide (c = 0) && decide (d = 0)
  else if a = 9 ∨ a = 10 ∨ a = 11 then decide (b = 0) && decide (c = 0) && decide (d = 0)
  else if a = 12 then inB b 0 7 && inB c 0 3 && inB d 0 3
  else if a = 13 then inB b 0 3 && inB c 0 7 && decide (d = 0)
  else if a = 14 then inB b 0 7 && inB c 0 3 && decide (d = 0)
  else false
def opC (o : I4) : Bool := opB o.a o.b o.c o.d
theorem opC7 {o : I4} (h : opC o = true) (h7 : o.a = 7) : 1 ≤ o.c ∧ o.c ≤ 20 := by
  simp [opC, opB, h7, inB] at h; omega
def tchF (a b c d : Int) : Int := if opB a b c d = true then (if a = 5 ∨ a = 6 then 1 else if a = 12 ∨ a = 13 ∨ a = 14 ∨ a = 15 ∨ a = 16 then 2 else 0) else 0
/-! Depths. -/
def opn (o : I4) : Int := if o.a = 8 then 1 else if o.a = 9 then -1 else 0
theorem opn_b (o : I4) : -1 ≤ opn o ∧ opn o ≤ 1 := by unfold opn; split <;> (try split) <;> omega
def dF (l : List I4) : Nat → Int
  | 0 => 0
  | n + 1 => dF l n + (match l[n]? with | some o => opn o | none => 0)
theorem dF_zero (l : List I4) : dF l 0 = 0 := rfl
theorem dF_succ {l : List I4} {n : Nat} (h : n < l.length) : dF l (n + 1) = dF l n + opn l[n] := by
  simp [dF, List.getElem?_eq_getElem h]
theorem dF_b (l : List I4) (n : Nat) : -(n : Int) ≤ dF l n ∧ dF l n ≤ (n : Int) := by
  induction n with
  | zero => simp [dF]
  | succ n ih =>
    rw [dF]
    cases h : l[n]? with
    | none => simp only []; omega
    | some o => have := opn_b o; simp only []; omega
/-- The first step of the reference's two: up where a block begins. -/
theorem s_up {a z : Int} (h1 : -1048578 ≤ z ∧ z ≤ 1048578) : (if a = 8 then (if in64 (z + 1) then some (z + 1) else none) else some z) = some (z + (if a = 8 then 1 else 0)) := by
  rw [if_pos (in64_of (by omega) (by omega) : in64 (z + 1))]; split <;> simp
theorem s_down {a z : Int} (h1 : -1048578 ≤ z ∧ z ≤ 1048578) : (if a = 9 then (if in64 (z - 1) then some (z - 1) else none) else some z) = some (z + (if a = 9 then -1 else 0)) := by
  rw [if_pos (in64_of (by omega) (by omega) : in64 (z - 1))]; split <;> simp <;> omega
theorem s_sum (o : I4) (z : Int) : z + (if o.a = 8 then 1 else 0) + (if o.a = 9 then -1 else 0) = z + opn o := by
  unfold opn; split <;> split <;> simp_all
theorem up_b (o : I4) (z : Int) : z ≤ z + (if o.a = 8 then 1 else 0) ∧ z + (if o.a = 8 then 1 else 0) ≤ z + 1 := by split <;> omega

/-! Code. -/
theorem dec_eq {p q : Prop} {a : Decidable p} {b : Decidable q} (h : p ↔ q) : @decide p a = @decide q b := decide_eq_decide.2 h
theorem dec_no {p : Prop} {a : Decidable p} (h : ¬ p) : @decide p a = false := decide_eq_false h
theorem dec_yes {p : Prop} {a : Decidable p} (h : p) : @decide p a = true := decide_eq_true h
def Al (n L : Nat) (P : Nat → Prop) : Prop := ∀ m, n ≤ m → m < L → P m
theorem al_end {n L : Nat} {P : Nat → Prop} (h : ¬ n < L) : Al n L P := fun m h1 h2 => absurd h2 (by omega)
theorem al_cons {n L : Nat} {P : Nat → Prop} (h : n < L) : Al n L P ↔ (P n ∧ Al (n + 1) L P) :=
  ⟨fun H => ⟨H n (Nat.le_refl _) h, fun m h1 h2 => H m (by omega) h2⟩, fun H m h1 h2 => by
    by_cases e : m = n
    · subst e; exact H.1
    · exact H.2 m (by omega) h2⟩
def Bal (x : List I4) : Prop := Al 0 x.length (fun m => 0 ≤ dF x (m + 1)) ∧ dF x x.length = 0
/-- What a jump passes over, in the reference: the same balance, of a part. -/
theorem subl_len {x : List I4} {i j : Nat} (h : i ≤ j) (hj : j ≤ x.length) : (subl x (i : Int) (j : Int)).length = j - i := by simp [subl]; omega
theorem subl_at {x : List I4} {i j n : Nat} (hj : j ≤ x.length) (h : i + n < j) : (subl x (i : Int) (j : Int))[n]? = x[i + n]? := by
  simp only [subl, Int.toNat_natCast]
  rw [List.getElem?_take_of_lt (by omega), List.getElem?_drop]
/-- Whether a jump's part is well within the code and balanced. -/
def SkipOk (x : List I4) (n : Nat) (c : Int) : Prop := (n : Int) + 1 + c ≤ (x.length : Int) ∧ Bal (subl x ((n + 1 : Nat) : Int) ((n : Int) + 1 + c))
def fF (l : List I4) : Nat → Int
  | 0 => 0
  | n + 1 => fF l n + (match l[n]? with | some o => if o.a = 11 then 1 else 0 | none => 0)
theorem fF_zero (l : List I4) : fF l 0 = 0 := rfl
theorem fF_succ {l : List I4} {n : Nat} (h : n < l.length) : fF l (n + 1) = fF l n + (if l[n].a = 11 then 1 else 0) := by
  simp [fF, List.getElem?_eq_getElem h]
theorem fF_b (l : List I4) (n : Nat) : 0 ≤ fF l n ∧ fF l n ≤ (n : Int) := by
  induction n with
  | zero => simp [fF]
  | succ n ih =>
    rw [fF]
    cases h : l[n]? with
    | none => simp only []; omega
    | some o => simp only []; split <;> omega
def CodeS (x : List I4) (n : Nat) (o : I4) : Prop := opC o = true ∧ (o.a = 7 → SkipOk x n o.c) ∧ (o.a = 11 → fF x (n + 1) ≤ 1 ∧ dF x n = 0)
def CodeP (x : List I4) : Prop := x.length ≤ 24 ∧ Bal x ∧ Al 0 x.length fun m => ∀ h : m < x.length, CodeS x m x[m]
/-- The reference's one pass: each operation, and no more ends than beginnings so far. -/
def CodeT (x : List I4) (n : Nat) : Prop := (∀ h : n < x.length, CodeS x n x[n]) ∧ 0 ≤ dF x (n + 1)

theorem and_b (x : Int) (M : Nat) (hM : M < 4611686018427387904) : 0 ≤ bits .and .i64 x (M : Int) ∧ bits .and .i64 x (M : Int) ≤ (M : Int) := by
  have h := Nat.and_le_right (n := (BitVec.ofInt 64 x).toNat) (m := M % 2 ^ 64)
  have e : bits .and .i64 x (M : Int) = IntKind.i64.wrap (((BitVec.ofInt 64 x).toNat &&& (M % 2 ^ 64) : Nat) : Int) := by
    show IntKind.i64.wrap (((BitVec.ofInt 64 x &&& BitVec.ofInt 64 (M : Int)).toNat : Nat) : Int) = _
    rw [BitVec.toNat_and, BitVec.ofInt_natCast, BitVec.toNat_ofNat]
  rw [e, IntKind.wrap_i64]
  have : M % 2 ^ 64 = M := Nat.mod_eq_of_lt (by omega)
  rw [this] at h ⊢
  omega
theorem p_l1New_L (fuel : Nat) (x : List UInt8) (hl : x.length ≤ 1048576) : ∀ K n (s : Int), 0 ≤ s ∧ s ≤ 4611686018427 → n ≤ x.length → x.length < n + K →
    ∃ s', m_spec_l1New_L0 fuel x K s (n : Int) = some s' := by
  intro K
  induction K with
  | zero => intro n s hs h1 h2; omega
  | succ K ih =>
    intro n s hs h1 h2
    rw [m_spec_l1New_L0]
    by_cases h : n < x.length
    · by_cases h4 : (n : Int) < 4000
      · have hb : ((x[n].toNat : Nat) : Int) < 256 := by have := x[n].toNat_lt; omega
        have i1 : in64 (s * 131) := in64_of (by omega) (by omega)
        have i2 : in64 (s * 131 + (x[n].toNat : Int)) := in64_of (by omega) (by omega)
        have i3 : in64 (s * 131 + (x[n].toNat : Int) + 7) := in64_of (by omega) (by omega)
        simp only [if_pos (lt_cast h), if_pos h4, at?_lt h, Option.bind_some, if_pos i1, if_pos i2, if_pos i3, if_pos (in64_succ h (show x.length ≤ _ by omega))]
        have := and_b (s * 131 + (x[n].toNat : Int) + 7) 1073741823 (by omega)
        exact ih (n + 1) _ ⟨this.1, Int.le_trans this.2 (by omega)⟩ (by omega) (by omega)
      · simp only [if_pos (lt_cast h), if_neg h4]; exact ⟨_, rfl⟩
    · simp only [if_neg (ge_cast h)]; exact ⟨_, rfl⟩
theorem p_l1New (fuel : Nat) (x : List UInt8) (hl : x.length ≤ 1048576) (hf : x.length < fuel) : ∃ s, m_spec_l1New fuel x = some (0, s) := by
  unfold m_spec_l1New
  rw [if_pos (in64_of (by omega) (by omega))]
  obtain ⟨s, h⟩ := p_l1New_L fuel x hl fuel 0 (10101 + (x.length : Int)) (by omega) (by omega) (by omega)
  exact ⟨s, by erw [h]; rfl⟩
theorem p_l1Byte (fuel : Nat) (x : List UInt8) (p s : Int) (hl : x.length ≤ 1048576) (hp : 0 ≤ p) : ∃ b p' s', m_spec_l1Byte fuel x p s = some (b, p', s') ∧ 0 ≤ b ∧ b ≤ 255 ∧ 0 ≤ p' := by
  unfold m_spec_l1Byte
  by_cases h : p < (x.length : Int)
  · obtain ⟨v, hv⟩ := at?_some_iff (l := x) (i := p) ⟨hp, h⟩
    simp only [if_pos h, hv, Option.bind_some, bind3]
    refine ⟨_, _, _, rfl, (and_b _ 255 (by omega)).1, (and_b _ 255 (by omega)).2, ?_⟩
    rw [IntKind.wrap_i64]; omega
  · simp only [if_neg h, Option.bind_some, bind3]
    exact ⟨_, _, _, rfl, (and_b _ 255 (by omega)).1, (and_b _ 255 (by omega)).2, hp⟩
theorem p_l1Below (fuel : Nat) (x : List UInt8) (p s n : Int) (hl : x.length ≤ 1048576) (hp : 0 ≤ p) : ∃ v p' s', m_spec_l1Below fuel x p s n = some (v, p', s') ∧ 0 ≤ v ∧ (0 < n → v < n) ∧ (n ≤ 0 → v = 0) ∧ 0 ≤ p' := by
  unfold m_spec_l1Below
  by_cases h0 : n ≤ 0
  · rw [if_pos h0]; exact ⟨_, _, _, rfl, Int.le_refl _, fun q => by omega, fun _ => rfl, hp⟩
  · rw [if_neg h0]
    have hn : (n : Int) ≠ 0 := by omega
    by_cases h1 : n ≤ 256
    · rw [if_pos h1]
      obtain ⟨b, p1, s1, e1, b1, b2, b3⟩ := p_l1Byte fuel x p s hl hp
      simp only [e1, bind3, Option.bind_some, if_pos hn]
      exact ⟨_, _, _, rfl, by rw [Int.tmod_eq_emod_of_nonneg b1]; exact Int.emod_nonneg _ hn, fun _ => by rw [Int.tmod_eq_emod_of_nonneg b1]; exact Int.emod_lt_of_pos _ (by omega), fun q => by omega, b3⟩
    · rw [if_neg h1]
      obtain ⟨b, p1, s1, e1, b1, b2, b3⟩ := p_l1Byte fuel x p s hl hp
      obtain ⟨c, p2, s2, e2, c1, c2, c3⟩ := p_l1Byte fuel x p1 s1 hl b3
      obtain ⟨d, p3, s3, e3, d1, d2, d3⟩ := p_l1Byte fuel x p2 s2 hl c3
      obtain ⟨e, p4, s4, e4, f1, f2, f3⟩ := p_l1Byte fuel x p3 s3 hl d3
      have i1 : in64 (b * 16777216) := in64_of (by omega) (by omega)
      have i2 : in64 (c * 65536) := in64_of (by omega) (by omega)
      have i3 : in64 (b * 16777216 + c * 65536) := in64_of (by omega) (by omega)
      have i4 : in64 (d * 256) := in64_of (by omega) (by omega)
      have i5 : in64 (b * 16777216 + c * 65536 + d * 256) := in64_of (by omega) (by omega)
      have i6 : in64 (b * 16777216 + c * 65536 + d * 256 + e) := in64_of (by omega) (by omega)
      simp only [e1, e2, e3, e4, bind3, Option.bind_some, if_pos i1, if_pos i2, if_pos i3, if_pos i4, if_pos i5, if_pos i6, if_pos hn]
      have hz : 0 ≤ b * 16777216 + c * 65536 + d * 256 + e := by omega
      exact ⟨_, _, _, rfl, by rw [Int.tmod_eq_emod_of_nonneg hz]; exact Int.emod_nonneg _ hn, fun _ => by rw [Int.tmod_eq_emod_of_nonneg hz]; exact Int.emod_lt_of_pos _ (by omega), fun q => by omega, f3⟩
theorem p_l1Once (fuel : Nat) (x : List UInt8) (p s n : Int) (hl : x.length ≤ 1048576) (hp : 0 ≤ p) : ∃ v p' s', m_spec_l1Once fuel x p s n = some (v, p', s') ∧ 0 ≤ p' := by
  obtain ⟨v, p', s', e, h1, h2, h3, h4⟩ := p_l1Below fuel x p s n hl hp
  exact ⟨decide (v = 0), p', s', by simp only [m_spec_l1Once, e, bind3, Option.bind_some], h4⟩
theorem p_l1PickInt (fuel : Nat) (x : List UInt8) (p s : Int) (l : List Int) (hl : x.length ≤ 1048576) (hp : 0 ≤ p) (hn : 0 < l.length) : ∃ v p' s', m_spec_l1PickInt fuel x p s l = some (v, p', s') ∧ v ∈ l ∧ 0 ≤ p' := by
  obtain ⟨v, p', s', e, h1, h2, h3, h4⟩ := p_l1Below fuel x p s (l.length : Int) hl hp
  obtain ⟨u, hu⟩ := at?_some_iff (l := l) (i := v) ⟨h1, h2 (by omega)⟩
  exact ⟨u, p', s', by simp only [m_spec_l1PickInt, e, bind3, Option.bind_some, hu], List.mem_of_getElem? (at?_some hu).2, h4⟩

/-! What a model yields, if it yields. -/
def W {α : Type} (o : Option α) (φ : α → Prop) : Prop := ∃ a, o = some a ∧ φ a
theorem W.some {α : Type} {a : α} {φ : α → Prop} (h : φ a) : W (some a) φ := ⟨a, rfl, h⟩
theorem W.mono {α : Type} {o : Option α} {φ ψ : α → Prop} (h : W o φ) (k : ∀ a, φ a → ψ a) : W o ψ := let ⟨a, e, h⟩ := h; ⟨a, e, k a h⟩
theorem W.bind {α β : Type} {o : Option α} {f : α → Option β} {φ : α → Prop} {ψ : β → Prop} (h : W o φ) (k : ∀ a, φ a → W (f a) ψ) : W (o.bind f) ψ := by
  obtain ⟨a, e, h⟩ := h; rw [e]; exact k a h
theorem W.bind2 {α β γ : Type} {o : Option (α × β)} {f : α → β → Option γ} {φ : α × β → Prop} {ψ : γ → Prop} (h : W o φ) (k : ∀ a b, φ (a, b) → W (f a b) ψ) : W (bind2 o f) ψ := by
  obtain ⟨⟨a, b⟩, e, h⟩ := h; rw [e]; exact k a b h
theorem W.bind3 {α β γ δ : Type} {o : Option (α × β × γ)} {f : α → β → γ → Option δ} {φ : α × β × γ → Prop} {ψ : δ → Prop} (h : W o φ) (k : ∀ a b c, φ (a, b, c) → W (f a b c) ψ) : W (bind3 o f) ψ := by
  obtain ⟨⟨a, b, c⟩, e, h⟩ := h; rw [e]; exact k a b c h
theorem W.bind4 {α β γ δ ε : Type} {o : Option (α × β × γ × δ)} {f : α → β → γ → δ → Option ε} {φ : α × β × γ × δ → Prop} {ψ : ε → Prop} (h : W o φ) (k : ∀ a b c d, φ (a, b, c, d) → W (f a b c d) ψ) : W (bind4 o f) ψ := by
  obtain ⟨⟨a, b, c, d⟩, e, h⟩ := h; rw [e]; exact k a b c d h
theorem W.bind5 {α β γ δ ε ζ : Type} {o : Option (α × β × γ × δ × ε)} {f : α → β → γ → δ → ε → Option ζ} {φ : α × β × γ × δ × ε → Prop} {ψ : ζ → Prop} (h : W o φ) (k : ∀ a b c d e, φ (a, b, c, d, e) → W (f a b c d e) ψ) : W (bind5 o f) ψ := by
  obtain ⟨⟨a, b, c, d, e⟩, q, h⟩ := h; rw [q]; exact k a b c d e h
theorem W.bind6 {α β γ δ ε ζ η : Type} {o : Option (α × β × γ × δ × ε × ζ)} {f : α → β → γ → δ → ε → ζ → Option η} {φ : α × β × γ × δ × ε × ζ → Prop} {ψ : η → Prop} (h : W o φ) (k : ∀ a b c d e g, φ (a, b, c, d, e, g) → W (f a b c d e g) ψ) : W (bind6 o f) ψ := by
  obtain ⟨⟨a, b, c, d, e, g⟩, q, h⟩ := h; rw [q]; exact k a b c d e g h
theorem W.ite {α : Type} {p : Prop} [Decidable p] {a b : Option α} {φ : α → Prop} (h : p → W a φ) (k : ¬ p → W b φ) : W (if p then a else b) φ := by
  by_cases q : p
  · rw [if_pos q]; exact h q
  · rw [if_neg q]; exact k q
theorem W.grd {α : Type} {p : Prop} [Decidable p] {a : Option α} {φ : α → Prop} (q : p) (h : W a φ) : W (if p then a else none) φ := by rw [if_pos q]; exact h
theorem W.yes {α : Type} {p : Prop} [Decidable p] {a b : Option α} {φ : α → Prop} (q : p) (h : W a φ) : W (if p then a else b) φ := by rw [if_pos q]; exact h
theorem W.no {α : Type} {p : Prop} [Decidable p] {a b : Option α} {φ : α → Prop} (q : ¬ p) (h : W b φ) : W (if p then a else b) φ := by rw [if_neg q]; exact h
theorem W.at {E : Type} {l : List E} {i : Int} (h : 0 ≤ i ∧ i < (l.length : Int)) : W (at? l i) (fun e => e ∈ l ∧ at? l i = .some e) := by
  obtain ⟨e, he⟩ := at?_some_iff h
  exact ⟨e, he, List.mem_of_getElem? (at?_some he).2, he⟩
/-- A loop's way on, or its way out. -/
theorem W.lpL {α β : Type} {o : Option (Lp α β)} {f : α → Option β} {φ : α → Prop} {ψ : β → Prop} (h : W o (fun r => match r with | .brk a => φ a | .ret b => ψ b)) (k : ∀ a, φ a → W (f a) ψ) : W (o.bind (contL f)) ψ := by
  obtain ⟨r, e, h⟩ := h
  rw [e]
  cases r with
  | brk a => exact k a h
  | ret b => exact ⟨b, rfl, h⟩

/-! Numbers in decimal digits. -/
def digs (n : Nat) : Str := if h : n = 0 then [] else b8 (48 + ((n % 10 : Nat) : Int)) :: digs (n / 10)
termination_by n
decreasing_by omega
theorem digs_zero : digs 0 = [] := by rw [digs]; rfl
theorem digs_pos {n : Nat} (h : n ≠ 0) : digs n = b8 (48 + ((n % 10 : Nat) : Int)) :: digs (n / 10) := by rw [digs, dif_neg h]
theorem digs_len : ∀ n, (digs n).length ≤ n := by
  intro n
  induction n using Nat.strongRecOn with
  | ind n ih =>
    by_cases h : n = 0
    · subst h; rw [digs_zero]; exact Nat.le_refl _
    · rw [digs_pos h, List.length_cons]
      have := ih (n / 10) (by omega)
      omega
theorem tm (n : Nat) : ((n : Int)).tmod 10 = ((n % 10 : Nat) : Int) := by rw [Int.tmod_eq_emod_of_nonneg (by omega)]; omega
theorem td (n : Nat) : ((n : Int)).tdiv 10 = ((n / 10 : Nat) : Int) := by rw [Int.tdiv_eq_ediv_of_nonneg (by omega)]; omega
theorem p_DL (F : Nat) : ∀ K n (A : Str), n < K → A.length + n ≤ 2000000000 → m_impl_Dec_L0 F K A (n : Int) = some (A ++ digs n) := by
  intro K
  induction K with
  | zero => intro n A h1 h2; omega
  | succ K ih =>
    intro n A h1 h2
    rw [m_impl_Dec_L0]
    by_cases h : n = 0
    · subst h; rw [if_pos (show ((0 : Nat) : Int) = 0 from rfl), digs_zero, List.append_nil]
    · have nz : (10 : Int) ≠ 0 := by decide
      have i1 : in64 (48 + ((n % 10 : Nat) : Int)) := in64_of (by omega) (by omega)
      have i2 : in64 ((n / 10 : Nat) : Int) := in64_of (by omega) (by omega)
      have i3 : A.length + 1 ≤ 17179869184 := by omega
      have e := ih (n / 10) (A ++ [b8 (48 + ((n % 10 : Nat) : Int))]) (by omega) (by simp; omega)
      rw [if_neg (by omega)]
      simp only [tm, td, if_pos nz, if_neg (show ¬ ((n % 10 : Nat) : Int) < 0 by omega), Option.bind_some, if_pos i1, if_pos i3, if_pos (And.intro nz i2)]
      rw [e, digs_pos h, List.append_assoc]; rfl
theorem p_rev (F : Nat) (l : Str) (hl : l.length ≤ 2000000000) : ∀ (K i : Nat) (z : Str), z.length = l.length → (∀ k, k < l.length → z[k]? = if k < i ∨ l.length ≤ k + i then l[l.length - 1 - k]? else l[k]?) → l.length < 2 * (i + K) → 2 * i ≤ l.length →
    m_impl_Dec_L1 F K z (i : Int) ((l.length : Int) - 1 - (i : Int)) = some l.reverse := by
  intro K
  induction K with
  | zero => intro i z h1 h2 h3 h4; omega
  | succ K ih =>
    intro i z hz hI h3 h4
    rw [m_impl_Dec_L1]
    by_cases h : 2 * i + 1 < l.length
    · have hj : (l.length : Int) - 1 - (i : Int) = ((l.length - 1 - i : Nat) : Int) := by omega
      rw [hj, if_pos (by omega)]
      have zi : i < z.length := by omega
      have zj : l.length - 1 - i < z.length := by omega
      obtain ⟨u, hu⟩ := at?_some_iff (l := z) (i := (i : Int)) (by omega)
      obtain ⟨v, hv⟩ := at?_some_iff (l := z) (i := ((l.length - 1 - i : Nat) : Int)) (by omega)
      obtain ⟨w, hw⟩ := at?_some_iff (l := z.set ((i : Int)).toNat v) (i := ((l.length - 1 - i : Nat) : Int)) (by rw [List.length_set]; omega)
      have hi : in64 ((i : Int) + 1) := in64_of (by omega) (by omega)
      have hk : in64 (((l.length - 1 - i : Nat) : Int) - 1) := in64_of (by omega) (by omega)
      rw [hv, Option.bind_some, hu, Option.bind_some, hw, Option.bind_some, if_pos hi, if_pos hk]
      have e1 : ((l.length - 1 - i : Nat) : Int) - 1 = (l.length : Int) - 1 - ((i + 1 : Nat) : Int) := by omega
      rw [e1, cast_succ, Int.toNat_natCast, Int.toNat_natCast]
      rw [at?_nat] at hu hv
      have ei : l[i]? = some u := by rw [← hu, hI i (by omega), if_neg (by omega)]
      have ej : l[l.length - 1 - i]? = some v := by rw [← hv, hI _ (by omega), if_neg (by omega)]
      refine ih (i + 1) _ (by simpa using hz) (fun k hk => ?_) (by omega) (by omega)
      rw [List.getElem?_set, List.getElem?_set]
      by_cases k1 : l.length - 1 - i = k
      · subst k1
        rw [if_pos rfl, if_pos (by rw [List.length_set]; exact zj), if_pos (.inr (by omega)), show l.length - 1 - (l.length - 1 - i) = i by omega, ei]
      · rw [if_neg k1]
        by_cases k2 : i = k
        · subst k2
          rw [if_pos rfl, if_pos zi, if_pos (.inl (by omega)), ej]
        · rw [if_neg k2, hI k hk]
          by_cases c : k < i ∨ l.length ≤ k + i
          · rw [if_pos c, if_pos (by omega)]
          · rw [if_neg c, if_neg (by omega)]
    · rw [if_neg (by omega)]
      congr 1
      refine List.ext_getElem? fun k => ?_
      by_cases hk : k < l.length
      · rw [hI k hk, List.getElem?_reverse hk]
        by_cases c : k < i ∨ l.length ≤ k + i
        · rw [if_pos c]
        · rw [if_neg c, show l.length - 1 - k = k by omega]
      · rw [List.getElem?_eq_none (by omega), List.getElem?_eq_none (by simp; omega)]

theorem tmn (n : Nat) : (-(n : Int)).tmod 10 = -((n % 10 : Nat) : Int) := by rw [Int.neg_tmod, tm]
theorem tdn (n : Nat) : (-(n : Int)).tdiv 10 = -((n / 10 : Nat) : Int) := by rw [Int.neg_tdiv, td]
theorem dg (n : Nat) : (if -((n % 10 : Nat) : Int) < 0 then (if in64 (0 - -((n % 10 : Nat) : Int)) then some (0 - -((n % 10 : Nat) : Int)) else none) else some (-((n % 10 : Nat) : Int))) = some ((n % 10 : Nat) : Int) := by
  by_cases h : -((n % 10 : Nat) : Int) < 0
  · rw [if_pos h, if_pos (in64_of (by omega) (by omega))]; congr 1; omega
  · rw [if_neg h]; congr 1; omega
theorem p_DLn (F : Nat) : ∀ K n (A : Str), n < K → A.length + n ≤ 2000000000 → m_impl_Dec_L0 F K A (-(n : Int)) = some (A ++ digs n) := by
  intro K
  induction K with
  | zero => intro n A h1 h2; omega
  | succ K ih =>
    intro n A h1 h2
    rw [m_impl_Dec_L0]
    by_cases h : n = 0
    · subst h; rw [if_pos (show -((0 : Nat) : Int) = 0 from rfl), digs_zero, List.append_nil]
    · have nz : (10 : Int) ≠ 0 := by decide
      have i1 : in64 (48 + ((n % 10 : Nat) : Int)) := in64_of (by omega) (by omega)
      have i2 : in64 (-((n / 10 : Nat) : Int)) := in64_of (by omega) (by omega)
      have i3 : A.length + 1 ≤ 17179869184 := by omega
      have e := ih (n / 10) (A ++ [b8 (48 + ((n % 10 : Nat) : Int))]) (by omega) (by simp; omega)
      rw [if_neg (by omega), if_pos nz, tmn, tdn, dg, Option.bind_some, if_pos i1, if_pos i3, Option.bind_some, if_pos ⟨nz, i2⟩, e, digs_pos h, List.append_assoc]; rfl
theorem digs_dig : ∀ n, ∀ c ∈ digs n, 48 ≤ c.toNat ∧ c.toNat ≤ 57 := by
  intro n
  induction n using Nat.strongRecOn with
  | ind n ih =>
    intro c hc
    by_cases h : n = 0
    · subst h; rw [digs_zero] at hc; simp at hc
    · rw [digs_pos h] at hc
      rcases List.mem_cons.1 hc with rfl | hc
      · have := b8_toNat (48 + ((n % 10 : Nat) : Int))
        rw [IntKind.wrap_u8] at this
        omega
      · exact ih (n / 10) (by omega) c hc
theorem digs_ne {n : Nat} (h : n ≠ 0) : digs n ≠ [] := by rw [digs_pos h]; simp

/-! The decimal of a number on both sides. -/
def decI (z : Int) : Str := if z = 0 then [48] else if z < 0 then 45 :: (digs z.natAbs).reverse else (digs z.natAbs).reverse
theorem p_DecI (F : Nat) {z : Int} (h : -1000000000 ≤ z ∧ z ≤ 1000000000) (hf : 1000000001 < F) : m_impl_Dec F z = some (decI z) := by
  unfold m_impl_Dec decI
  by_cases h0 : z = 0
  · rw [if_pos h0, if_pos h0]
  · rw [if_neg h0, if_neg h0]
    by_cases hn : z < 0
    · obtain ⟨n, rfl⟩ : ∃ n : Nat, z = -(n : Int) := ⟨z.natAbs, by omega⟩
      have hlen := digs_len n
      have e1 := p_DLn F F n [] (by omega) (by simp <;> omega)
      have e2 := p_rev F (digs n ++ [45]) (by simp <;> omega) F 0 (digs n ++ [45]) rfl (fun k hk => by rw [if_neg (by omega)]) (by simp <;> omega) (by omega)
      simp only [Int.natCast_zero, Int.sub_zero] at e2
      rw [List.nil_append] at e1
      rw [e1, Option.bind_some, if_pos hn, if_pos hn, if_pos (by omega), Option.bind_some, if_pos (in64_of (by simp <;> omega) (by simp <;> omega)), e2, Option.bind_some, List.reverse_append, show (-(n : Int)).natAbs = n by omega]
      rfl
    · obtain ⟨n, rfl⟩ : ∃ n : Nat, z = (n : Int) := ⟨z.natAbs, by omega⟩
      have hlen := digs_len n
      have e1 := p_DL F F n [] (by omega) (by simp <;> omega)
      have e2 := p_rev F (digs n) (by omega) F 0 (digs n) rfl (fun k hk => by rw [if_neg (by omega)]) (by omega) (by omega)
      simp only [Int.natCast_zero, Int.sub_zero] at e2
      rw [List.nil_append] at e1
      rw [e1, Option.bind_some, if_neg hn, if_neg hn, Option.bind_some, if_pos (in64_of (by omega) (by omega)), e2, Option.bind_some, show ((n : Int)).natAbs = n by omega]
/-- What a decimal looks like: a sign perhaps, and digits, one at least. -/
theorem decI_form (z : Int) : ∃ s : Str, s ≠ [] ∧ (∀ c ∈ s, 48 ≤ c.toNat ∧ c.toNat ≤ 57) ∧ (decI z = s ∨ decI z = 45 :: s) := by
  unfold decI
  by_cases h0 : z = 0
  · exact ⟨[48], by simp, by simp, .inl (by rw [if_pos h0])⟩
  · have hd : ∀ c ∈ (digs z.natAbs).reverse, 48 ≤ c.toNat ∧ c.toNat ≤ 57 := fun c hc => digs_dig _ c (List.mem_reverse.1 hc)
    have hne : (digs z.natAbs).reverse ≠ [] := by simpa using digs_ne (n := z.natAbs) (by omega)
    rw [if_neg h0]
    by_cases hn : z < 0
    · exact ⟨_, hne, hd, .inr (by rw [if_pos hn])⟩
    · exact ⟨_, hne, hd, .inl (by rw [if_neg hn])⟩

/-! Reading. -/
def isD (c : UInt8) : Bool := decide (48 ≤ c.toNat) && decide (c.toNat ≤ 57)
def dvl : Int → Str → Int
  | z, [] => z
  | z, c :: s => if isD c = true then dvl (z * 10 + ((c.toNat : Int) - 48)) s else dvl z s
def cnt : Str → Int
  | [] => 0
  | c :: s => (if isD c = true then 1 else 0) + cnt s
def p10 : Nat → Int
  | 0 => 1
  | k + 1 => 10 * p10 k
theorem p10_pos (k : Nat) : 1 ≤ p10 k := by induction k with
  | zero => simp [p10]
  | succ k ih => simp only [p10]; omega
theorem p10_mono {k : Nat} (h : k ≤ 11) : p10 k ≤ 100000000000 := by
  have : k = 0 ∨ k = 1 ∨ k = 2 ∨ k = 3 ∨ k = 4 ∨ k = 5 ∨ k = 6 ∨ k = 7 ∨ k = 8 ∨ k = 9 ∨ k = 10 ∨ k = 11 := by omega
  rcases this with rfl | rfl | rfl | rfl | rfl | rfl | rfl | rfl | rfl | rfl | rfl | rfl <;> decide
theorem b8_dig {c : UInt8} (h : 48 ≤ c.toNat ∧ c.toNat ≤ 57) : ((b8 ((c.toNat : Int) - 48)).toNat : Int) = (c.toNat : Int) - 48 := by
  rw [b8_toNat, IntKind.wrap_u8]; omega
theorem cnt_all : ∀ {s : Str}, s.all isD = true → cnt s = (s.length : Int)
  | [], _ => rfl
  | c :: s, h => by
    rw [List.all_cons, Bool.and_eq_true] at h
    rw [cnt, if_pos h.1, cnt_all h.2, List.length_cons]; omega
theorem p_Read_L (F : Nat) (x : Str) (hx : x.length ≤ 1048576) : ∀ (K n k : Nat) (z : Int), n ≤ x.length → x.length < n + K → k + (x.length - n) ≤ 9 → 0 ≤ z ∧ z < p10 k →
    m_impl_ReadDec_L0 F x K z (n : Int) = some (if (x.drop n).all isD = true then .brk (dvl z (x.drop n)) else .ret (0, false)) ∧ ((x.drop n).all isD = true → 0 ≤ dvl z (x.drop n) ∧ dvl z (x.drop n) < 1000000000) := by
  intro K
  induction K with
  | zero => intro n k z h1 h2 h3 h5; omega
  | succ K ih =>
    intro n k z h1 h2 h3 h5
    have hp := p10_mono (k := k) (by omega)
    have hk9 : z < 1000000000 := by
      have : k = 0 ∨ k = 1 ∨ k = 2 ∨ k = 3 ∨ k = 4 ∨ k = 5 ∨ k = 6 ∨ k = 7 ∨ k = 8 ∨ k = 9 := by omega
      have hb : p10 k ≤ 1000000000 := by rcases this with rfl | rfl | rfl | rfl | rfl | rfl | rfl | rfl | rfl | rfl <;> decide
      omega
    rw [m_impl_ReadDec_L0]
    by_cases h : n < x.length
    · have hi : in64 ((n : Int) + 1) := in64_of (by omega) (by omega)
      rw [if_pos (lt_cast h), drop_cons h, List.all_cons, at?_lt h, Option.bind_some]
      by_cases hd : isD x[n] = true
      · have hd' : 48 ≤ x[n].toNat ∧ x[n].toNat ≤ 57 := by simpa [isD] using hd
        obtain ⟨e, q⟩ := ih (n + 1) (k + 1) (10 * z + ((x[n].toNat : Int) - 48)) (by omega) (by omega) (by omega) (by simp only [p10]; omega)
        have ez : z * 10 + ((x[n].toNat : Int) - 48) = 10 * z + ((x[n].toNat : Int) - 48) := by omega
        rw [if_neg (by omega), Option.bind_some, if_neg (by omega), if_pos (in64_of (by omega) (by omega)), Option.bind_some, b8_dig hd', if_pos (in64_of (by omega) (by omega)), if_pos hi, hd, Bool.true_and, dvl, if_pos hd, ez]
        exact ⟨e, q⟩
      · have hd' : ¬ (48 ≤ x[n].toNat ∧ x[n].toNat ≤ 57) := by simpa [isD] using hd
        rw [Bool.eq_false_iff.2 hd, Bool.false_and]
        refine ⟨?_, fun q => by cases q⟩
        by_cases h48 : (x[n].toNat : Int) < 48
        · rw [if_pos h48]; rfl
        · rw [if_neg h48, Option.bind_some, if_pos (by omega)]; rfl
    · rw [if_neg (ge_cast h), drop_end h]
      exact ⟨rfl, fun _ => ⟨h5.1, hk9⟩⟩

/-! What a decimal says. -/
theorem dvl_snoc : ∀ (s : Str) (z : Int) (c : UInt8), isD c = true → dvl z (s ++ [c]) = dvl z s * 10 + ((c.toNat : Int) - 48)
  | [], z, c, h => by simp [dvl, h]
  | d :: s, z, c, h => by
    simp only [List.cons_append, dvl]
    split
    · exact dvl_snoc s _ c h
    · exact dvl_snoc s _ c h
theorem digs_isD (n : Nat) : ∀ c ∈ digs n, isD c = true := fun c hc => by simpa [isD] using digs_dig n c hc
theorem dvl_digs (n : Nat) : dvl 0 (digs n).reverse = (n : Int) := by
  induction n using Nat.strongRecOn with
  | ind n ih =>
    by_cases h : n = 0
    · subst h; rw [digs_zero]; rfl
    · rw [digs_pos h, List.reverse_cons, dvl_snoc _ _ _ (digs_isD n _ (by rw [digs_pos h]; simp)), ih (n / 10) (by omega), b8_toNat, IntKind.wrap_u8]
      omega
theorem digs_lenP : ∀ (k n : Nat), (n : Int) < p10 k → (digs n).length ≤ k
  | 0, n, h => by simp only [p10] at h; have : n = 0 := by omega
                  subst this; rw [digs_zero]; simp
  | k + 1, n, h => by
    by_cases h0 : n = 0
    · subst h0; rw [digs_zero]; simp
    · rw [digs_pos h0, List.length_cons]
      simp only [p10] at h
      have := digs_lenP k (n / 10) (by omega)
      omega
theorem decI_parse {u : Int} {x : Str} {sg : Nat} (h1 : -1000000000 < u) (h2 : u < 1000000000) (hx : x = decI u) (hs : sg ≤ 1) (hg : sg = 1 ↔ ∃ s, x = 45 :: s) :
    inB ((x.length : Int) - (sg : Int)) 1 9 = true ∧ (x.drop sg).all isD = true ∧ (if sg = 1 then 0 - dvl 0 (x.drop sg) else dvl 0 (x.drop sg)) = u := by
  have hl : (digs u.natAbs).length ≤ 9 := digs_lenP 9 _ (by show (u.natAbs : Int) < 1000000000; omega)
  have hv := dvl_digs u.natAbs
  have hd : ∀ c ∈ (digs u.natAbs).reverse, isD c = true := fun c hc => digs_isD _ c (List.mem_reverse.1 hc)
  unfold decI at hx
  by_cases h0 : u = 0
  · rw [if_pos h0] at hx
    subst hx h0
    have : ¬ sg = 1 := fun h => by obtain ⟨s, h⟩ := hg.1 h; simp at h
    have : sg = 0 := by omega
    subst this
    exact ⟨by decide, by decide, by decide⟩
  · rw [if_neg h0] at hx
    have hne : (digs u.natAbs).reverse ≠ [] := by simpa using digs_ne (n := u.natAbs) (by omega)
    have hpos : 0 < (digs u.natAbs).reverse.length := List.length_pos_iff.2 hne
    rw [List.length_reverse] at hpos
    by_cases hn : u < 0
    · rw [if_pos hn] at hx
      have : sg = 1 := hg.2 ⟨_, hx⟩
      subst this hx
      refine ⟨inB_true.2 (by simp; omega), List.all_eq_true.2 hd, ?_⟩
      rw [if_pos rfl]
      show 0 - dvl 0 (digs u.natAbs).reverse = u
      omega
    · rw [if_neg hn] at hx
      have hns : ¬ sg = 1 := fun h => by
        obtain ⟨s, h⟩ := hg.1 h
        have := hd 45 (by rw [← hx, h]; simp)
        simp [isD] at this
      have : sg = 0 := by omega
      subst this hx
      refine ⟨inB_true.2 (by simp; omega), by simpa using hd, ?_⟩
      rw [if_neg hns]
      show dvl 0 (digs u.natAbs).reverse = u
      omega

/-! Bits. -/
theorem sub_nat (x : Str) (i j : Nat) : sub x (i : Int) (j : Int) = (x.drop i).take (j - i) := by simp [sub]
theorem or64_comm (x y : Int) : bits .or .i64 x y = bits .or .i64 y x := by
  show IntKind.i64.wrap ((BitVec.ofInt 64 x ||| BitVec.ofInt 64 y).toNat : Int) = IntKind.i64.wrap ((BitVec.ofInt 64 y ||| BitVec.ofInt 64 x).toNat : Int)
  rw [BitVec.or_comm]
theorem wraps_62 (n : Int) (h₀ : 0 ≤ n) (h₁ : n < 2 ^ 62) : IntKind.i64.wrap n = n := by rw [IntKind.wrap_i64]; omega
theorem u8_and127 (b : UInt8) : bits .and .u8 (b.toNat : Int) 127 = (b.toNat : Int) % 128 := by
  have := b.toNat_lt
  exact bits_mask .u8 8 (by decide) wraps_u8 7 (by decide) b.toNat (by omega) (by omega)
theorem u8_and15' (b : UInt8) : bits .and .u8 (b.toNat : Int) 15 = (b.toNat : Int) % 16 := by
  have := b.toNat_lt
  exact bits_mask .u8 8 (by decide) wraps_u8 4 (by decide) b.toNat (by omega) (by omega)
theorem i64_and127 {x : Int} (h0 : 0 ≤ x) (h : x < 4611686018427387904) : bits .and .i64 x 127 = x % 128 :=
  bits_mask .i64 62 (by decide) wraps_62 7 (by decide) x h0 h
theorem i64_and255 {x : Int} (h0 : 0 ≤ x) (h : x < 4611686018427387904) : bits .and .i64 x 255 = x % 256 :=
  bits_mask .i64 62 (by decide) wraps_62 8 (by decide) x h0 h
theorem i64_join (i : Nat) {x y : Int} (hx0 : 0 ≤ x) (hx : x % 2 ^ i = 0) (hx1 : x < 4611686018427387904) (hy0 : 0 ≤ y) (hy : y < 2 ^ i) (hy1 : y < 4611686018427387904) : bits .or .i64 x y = x + y :=
  bits_join .i64 62 (by decide) wraps_62 i x y hx0 hx hx1 hy0 hy hy1
theorem b8_val {x : Int} (h : 0 ≤ x ∧ x ≤ 255) : ((b8 x).toNat : Int) = x := by rw [b8_toNat, IntKind.wrap_u8]; omega
theorem b8_of (c : UInt8) : b8 (c.toNat : Int) = c := UInt8.toNat_inj.1 (by have := b8_val (x := (c.toNat : Int)) (by have := c.toNat_lt; omega); omega)

/-! Hexadecimal. -/
def hexD : Str := [48, 49, 50, 51, 52, 53, 54, 55, 56, 57, 97, 98, 99, 100, 101, 102]
def hexF : Str → Str
  | [] => []
  | c :: s => hexD.getD (c.toNat / 16) 0 :: hexD.getD (c.toNat % 16) 0 :: hexF s
theorem hexF_len : ∀ s : Str, (hexF s).length = 2 * s.length
  | [] => rfl
  | c :: s => by simp [hexF, hexF_len s]; omega
theorem hexD_at {k : Nat} (h : k < 16) : at? hexD (k : Int) = some (hexD.getD k 0) := by
  have : k < hexD.length := h
  rw [at?_lt this]; simp [List.getD, List.getElem?_eq_getElem this]
theorem p_Hex_L (F : Nat) (x : Str) (hx : x.length ≤ 1000) : ∀ (K n : Nat) (A : Str), n ≤ x.length → x.length < n + K → A.length ≤ 2 * n → m_impl_Hex_L0 F x K A (n : Int) = some (A ++ hexF (x.drop n)) := by
  intro K
  induction K with
  | zero => intro n A h1 h2; omega
  | succ K ih =>
    intro n A h1 h2 h3
    rw [m_impl_Hex_L0]
    by_cases h : n < x.length
    · have hc := (x[n]).toNat_lt
      have e1 : ((b8 (((x[n]).toNat : Int) / 2 ^ 4)).toNat : Int) = (((x[n]).toNat / 16 : Nat) : Int) := by rw [b8_val (by constructor <;> omega)]; omega
      have e2 : ((b8 (bits .and .u8 ((x[n]).toNat : Int) 15)).toNat : Int) = (((x[n]).toNat % 16 : Nat) : Int) := by rw [u8_and15', b8_val (by constructor <;> omega)]; omega
      have q1 := hexD_at (k := (x[n]).toNat / 16) (by omega)
      have q2 := hexD_at (k := (x[n]).toNat % 16) (by omega)
      have i1 : A.length + 2 ≤ 17179869184 := by omega
      have i2 : in64 ((n : Int) + 1) := in64_of (by omega) (by omega)
      have q1' : at? ([48, 49, 50, 51, 52, 53, 54, 55, 56, 57, 97, 98, 99, 100, 101, 102] : List UInt8) ((b8 (((x[n]).toNat : Int) / 2 ^ 4)).toNat : Int) = some (hexD.getD ((x[n]).toNat / 16) 0) := by rw [e1]; exact q1
      have q2' : at? ([48, 49, 50, 51, 52, 53, 54, 55, 56, 57, 97, 98, 99, 100, 101, 102] : List UInt8) ((b8 (bits .and .u8 ((x[n]).toNat : Int) 15)).toNat : Int) = some (hexD.getD ((x[n]).toNat % 16) 0) := by rw [e2]; exact q2
      rw [if_pos (lt_cast h), at?_lt h, Option.bind_some, q1', Option.bind_some, Option.bind_some, q2', Option.bind_some, if_pos i1, if_pos i2, cast_succ, ih (n + 1) _ (by omega) (by omega) (by simp; omega), drop_cons h, hexF]
      simp
    · rw [if_neg (ge_cast h), drop_end h]; simp [hexF]
theorem p_Hex (F : Nat) (x : Str) (hx : x.length ≤ 1000) (hf : 1000 < F) : m_impl_Hex F x = some (hexF x) := by
  unfold m_impl_Hex
  have := p_Hex_L F x hx F 0 [] (by omega) (by omega) (by simp)
  simp only [Int.natCast_zero, List.drop_zero, List.nil_append] at this
  rw [if_pos (in64_of (by omega) (by omega)), if_pos (by omega), this]; rfl
theorem p_hexV (F : Nat) {k : Nat} (h : k < 16) : m_impl_hexValue F (hexD.getD k 0) = some (k : Int) := by
  have : k = 0 ∨ k = 1 ∨ k = 2 ∨ k = 3 ∨ k = 4 ∨ k = 5 ∨ k = 6 ∨ k = 7 ∨ k = 8 ∨ k = 9 ∨ k = 10 ∨ k = 11 ∨ k = 12 ∨ k = 13 ∨ k = 14 ∨ k = 15 := by omega
  rcases this with rfl | rfl | rfl | rfl | rfl | rfl | rfl | rfl | rfl | rfl | rfl | rfl | rfl | rfl | rfl | rfl <;> (unfold m_impl_hexValue; decide +kernel)
theorem p_Unhex_L (F : Nat) (x : Str) (hx : x.length ≤ 1000) : ∀ (K n : Nat) (A : Str), n ≤ x.length → x.length < n + K → A.length = n →
    m_impl_Unhex_L0 F (hexF x) K A ((2 * n : Nat) : Int) = some (.brk (A ++ x.drop n)) := by
  have hlen := hexF_len x
  have hat : ∀ n (h : n < x.length), at? (hexF x) ((2 * n : Nat) : Int) = some (hexD.getD ((x[n]).toNat / 16) 0) ∧ at? (hexF x) ((2 * n + 1 : Nat) : Int) = some (hexD.getD ((x[n]).toNat % 16) 0) := by
    clear hlen hx
    induction x with
    | nil => intro n h; simp at h
    | cons c s ih =>
      intro n h
      rw [at?_nat, at?_nat]
      cases n with
      | zero => exact ⟨rfl, rfl⟩
      | succ n =>
        have := ih n (by simpa using h)
        rw [at?_nat, at?_nat] at this
        rw [show 2 * (n + 1) = 2 * n + 1 + 1 by omega, hexF]
        simp only [List.getElem?_cons_succ, List.getElem_cons_succ]
        exact this
  intro K
  induction K with
  | zero => intro n A h1 h2; omega
  | succ K ih =>
    intro n A h1 h2 h3
    rw [m_impl_Unhex_L0, hlen]
    by_cases h : n < x.length
    · obtain ⟨a1, a2⟩ := hat n h
      have hc := (x[n]).toNat_lt
      have v1 := p_hexV F (k := (x[n]).toNat / 16) (by omega)
      have v2 := p_hexV F (k := (x[n]).toNat % 16) (by omega)
      have i1 : in64 (((2 * n : Nat) : Int) + 1) := in64_of (by omega) (by omega)
      have i2 : in64 (((2 * n : Nat) : Int) + 2) := in64_of (by omega) (by omega)
      have c1 : ((2 * n : Nat) : Int) + 1 = ((2 * n + 1 : Nat) : Int) := by omega
      have c2 : ((2 * n : Nat) : Int) + 2 = ((2 * (n + 1) : Nat) : Int) := by omega
      have p4 : (2 : Int) ^ (4 : Int).toNat = 16 := rfl
      have i3 : (0 ≤ (4 : Int) ∧ (4 : Int) ≤ 63) ∧ in64 ((((x[n]).toNat / 16 : Nat) : Int) * 2 ^ (4 : Int).toNat) := ⟨by decide, by rw [p4]; exact in64_of (by omega) (by omega)⟩
      have i4 : A.length + 1 ≤ 17179869184 := by omega
      have hj : bits .or .i64 ((((x[n]).toNat / 16 : Nat) : Int) * 2 ^ (4 : Int).toNat) (((x[n]).toNat % 16 : Nat) : Int) = ((x[n]).toNat : Int) := by
        rw [p4, i64_join 4 (by omega) (by omega) (by omega) (by omega) (by omega) (by omega)]; omega
      rw [if_pos (by omega), a1, Option.bind_some, if_pos i1, c1, a2, Option.bind_some, v1, Option.bind_some, v2, Option.bind_some, if_neg (by omega), if_neg (by omega), if_pos i3, if_pos i4, if_pos i2, c2, hj, b8_of, ih (n + 1) _ (by omega) (by omega) (by simp; omega), drop_cons h]
      simp
    · rw [if_neg (by omega), drop_end h]; simp
theorem p_Unhex (F : Nat) (x : Str) (hx : x.length ≤ 1000) (hf : 1000 < F) : m_impl_Unhex F (hexF x) = some (x, true) := by
  unfold m_impl_Unhex
  have := p_Unhex_L F x hx F 0 [] (by omega) (by omega) rfl
  simp only [Nat.mul_zero, Int.natCast_zero, List.drop_zero, List.nil_append] at this
  have hlen := hexF_len x
  have e1 : ((hexF x).length : Int).tmod 2 = 0 := by rw [Int.tmod_eq_emod_of_nonneg (by omega)]; omega
  have e2 : ((hexF x).length : Int).tdiv 2 = (x.length : Int) := by rw [Int.tdiv_eq_ediv_of_nonneg (by omega)]; omega
  rw [if_pos (by decide), if_pos e1, e2, if_pos ⟨by decide, in64_of (by omega) (by omega)⟩, if_pos (by omega), this]; rfl

/-! Numbers of so many bytes. -/
def lowF : Nat → Nat → Str
  | 0, _ => []
  | w + 1, m => lowF w (m / 256) ++ [b8 ((m % 256 : Nat) : Int)]
theorem lowF_len : ∀ w m, (lowF w m).length = w
  | 0, _ => rfl
  | w + 1, m => by simp [lowF, lowF_len w]
theorem p_Fixed_L (F : Nat) : ∀ (w K m : Nat) (R : Str), w < K → w ≤ 7 → m < 4611686018427387904 → m_impl_Fixed_L0 F K (m : Int) (List.replicate w 0 ++ R) ((w : Int) - 1) = some (lowF w m ++ R) := by
  intro w
  induction w with
  | zero =>
    intro K m R h1 h2 h3
    obtain ⟨k, rfl⟩ : ∃ k, K = k + 1 := ⟨K - 1, by omega⟩
    rw [m_impl_Fixed_L0, if_neg (by omega)]; rfl
  | succ w ih =>
    intro K m R h1 h2 h3
    obtain ⟨k, rfl⟩ : ∃ k, K = k + 1 := ⟨K - 1, by omega⟩
    have e0 : (((w + 1 : Nat) : Int) - 1) = (w : Int) := by omega
    have e1 : List.replicate (w + 1) (0 : UInt8) ++ R = List.replicate w 0 ++ 0 :: R := by
      rw [List.replicate_succ']; simp
    have hat : at? (List.replicate w (0 : UInt8) ++ 0 :: R) (w : Int) = some 0 := at?_mid (by simp) _ _
    have i1 : in64 ((w : Int) - 1) := in64_of (by omega) (by omega)
    have e2 : ((m : Int) / 2 ^ 8) = ((m / 256 : Nat) : Int) := by omega
    have e3 : bits .and .i64 (m : Int) 255 = ((m % 256 : Nat) : Int) := by rw [i64_and255 (by omega) (by omega)]; omega
    rw [m_impl_Fixed_L0, e0, if_pos (by omega), e1, hat, Option.bind_some, if_pos i1, e2, e3, set_mid (by simp), ih k (m / 256) _ (by omega) (by omega) (by omega), lowF, List.append_assoc]
    rfl
def beF : Nat → Str → Nat
  | a, [] => a
  | a, c :: s => beF (a * 256 + c.toNat) s
theorem beF_snoc : ∀ (s : Str) (a : Nat) (c : UInt8), beF a (s ++ [c]) = beF a s * 256 + c.toNat
  | [], a, c => rfl
  | d :: s, a, c => by simp [beF, beF_snoc s]
theorem beF_low : ∀ w m, m < 256 ^ w → beF 0 (lowF w m) = m
  | 0, m, h => by simp at h; subst h; rfl
  | w + 1, m, h => by
    have h' : m / 256 < 256 ^ w := by rw [Nat.pow_succ] at h; exact Nat.div_lt_of_lt_mul (by rw [Nat.mul_comm]; exact h)
    have hb := b8_val (x := ((m % 256 : Nat) : Int)) (by constructor <;> omega)
    rw [lowF, beF_snoc, beF_low w _ h']
    omega
theorem p_ReadFixed_L (F : Nat) (s : Str) : ∀ (K k a : Nat), k ≤ 7 → 7 ≤ s.length → 7 < k + K → a < 256 ^ k →
    m_impl_ReadFixed_L0 F s 7 K (a : Int) (k : Int) = some ((beF a ((s.drop k).take (7 - k)) : Nat) : Int) := by
  intro K
  induction K with
  | zero => intro k a h1 h2 h3; omega
  | succ K ih =>
    intro k a h1 h2 h3 h4
    rw [m_impl_ReadFixed_L0]
    by_cases h : k < 7
    · have hk : k < s.length := by omega
      have hp : a < 281474976710656 := by
        have : (256 : Nat) ^ k ≤ 256 ^ 6 := Nat.pow_le_pow_right (by decide) (by omega)
        exact Nat.lt_of_lt_of_le h4 this
      have hc := (s[k]).toNat_lt
      have p8 : (2 : Int) ^ (8 : Int).toNat = 256 := rfl
      have i1 : (0 ≤ (8 : Int) ∧ (8 : Int) ≤ 63) ∧ in64 ((a : Int) * 2 ^ (8 : Int).toNat) := ⟨by decide, by rw [p8]; exact in64_of (by omega) (by omega)⟩
      have i2 : in64 ((k : Int) + 1) := in64_of (by omega) (by omega)
      have hj : bits .or .i64 ((a : Int) * 2 ^ (8 : Int).toNat) ((s[k]).toNat : Int) = ((a * 256 + (s[k]).toNat : Nat) : Int) := by
        rw [p8, i64_join 8 (by omega) (by omega) (by omega) (by omega) (by omega) (by omega)]; omega
      rw [if_pos (by omega), if_pos i1, at?_lt hk, Option.bind_some, if_pos i2, hj, cast_succ, ih (k + 1) _ (by omega) h2 (by omega) (by rw [Nat.pow_succ]; omega), drop_cons hk, show 7 - k = (7 - (k + 1)) + 1 by omega, List.take_succ_cons, beF]
    · have : k = 7 := by omega
      subst this
      rw [if_neg (by omega)]; simp [beF]
theorem p_FixedOk (F : Nat) (m : Nat) (hf : 100 < F) (hm : m < 72057594037927936) : m_impl_Fixed F (m : Int) 7 = some (lowF 7 m) := by
  unfold m_impl_Fixed
  have e := p_Fixed_L F 7 F m [] (by omega) (by omega) (by omega)
  rw [List.append_nil, List.append_nil] at e
  have e' : m_impl_Fixed_L0 F F (m : Int) (List.replicate (7 : Int).toNat (0 : UInt8)) ((7 : Int) - 1) = some (lowF 7 m) := e
  have hp : ((1 : Int) * 2 ^ (8 * 7 : Int).toNat) = 72057594037927936 := by decide
  rw [p_within, Option.bind_some, if_pos (by decide), if_neg (by omega), if_pos (by decide), if_pos ⟨by decide, by rw [hp]; decide⟩, hp, if_neg (by omega), if_pos (by decide), if_pos (by decide), e']; rfl
theorem p_FixedNo (F : Nat) (n : Int) (h : n < 0 ∨ 72057594037927936 ≤ n) : m_impl_Fixed F n 7 = some [] := by
  unfold m_impl_Fixed
  have hp : ((1 : Int) * 2 ^ (8 * 7 : Int).toNat) = 72057594037927936 := by decide
  rw [p_within, Option.bind_some, if_pos (by decide)]
  by_cases h0 : n < 0
  · rw [if_pos h0]
  · rw [if_neg h0, if_pos (by decide), if_pos ⟨by decide, by rw [hp]; decide⟩, hp, if_pos (by omega)]
theorem p_ReadFixed (F : Nat) (s : Str) (hf : 100 < F) (hs : 7 ≤ s.length) : m_impl_ReadFixed F s 7 = some (((beF 0 (s.take 7) : Nat) : Int), true) := by
  unfold m_impl_ReadFixed
  have e := p_ReadFixed_L F s F 0 0 (by omega) hs (by omega) (by decide)
  simp only [Int.natCast_zero, List.drop_zero, Nat.sub_zero] at e
  rw [p_within, Option.bind_some, if_pos (by decide), if_neg (by omega), e]; rfl
theorem p_ReadFixed_any (F : Nat) (s : Str) (hf : 100 < F) : ∃ v b, m_impl_ReadFixed F s 7 = some (v, b) := by
  by_cases hs : 7 ≤ s.length
  · exact ⟨_, _, p_ReadFixed F s hf hs⟩
  · refine ⟨0, false, ?_⟩
    unfold m_impl_ReadFixed
    rw [p_within, Option.bind_some, if_pos (by decide), if_pos (by omega)]

/-! Numbers of seven bits a byte. -/
def varF : Nat → Nat → Str
  | 0, m => [b8 (m : Int)]
  | k + 1, m => if 127 < m then b8 (128 + ((m % 128 : Nat) : Int)) :: varF k (m / 128) else [b8 (m : Int)]
theorem varF_len : ∀ k m, (varF k m).length ≤ k + 1 ∧ 0 < (varF k m).length
  | 0, m => by simp [varF]
  | k + 1, m => by
    rw [varF]; split
    · have := varF_len k (m / 128); simp; omega
    · simp
theorem or128 {x : Int} (h : 0 ≤ x ∧ x < 128) : bits .or .i64 x 128 = 128 + x := by
  rw [or64_comm, i64_join 7 (by decide) (by decide) (by decide) h.1 h.2 (by omega)]
theorem p_Var_L (F : Nat) : ∀ (k K m : Nat) (A : Str), k < K → m < 128 ^ (k + 1) → m < 4611686018427387904 → A.length + k ≤ 1000 → ∃ v B, m_impl_Var_L0 F K (m : Int) A = some (v, B) ∧ B ++ [b8 v] = A ++ varF k m ∧ B.length ≤ 1000 := by
  intro k
  induction k with
  | zero =>
    intro K m A h1 h2 h3 h4
    obtain ⟨K, rfl⟩ : ∃ q, K = q + 1 := ⟨K - 1, by omega⟩
    rw [m_impl_Var_L0, if_neg (by simp at h2; omega)]
    exact ⟨_, _, rfl, rfl, by omega⟩
  | succ k ih =>
    intro K m A h1 h2 h3 h4
    obtain ⟨K, rfl⟩ : ∃ q, K = q + 1 := ⟨K - 1, by omega⟩
    rw [m_impl_Var_L0]
    by_cases h : 127 < m
    · have e1 : bits .and .i64 (m : Int) 127 = ((m % 128 : Nat) : Int) := by rw [i64_and127 (by omega) (by omega)]; omega
      have e2 : bits .or .i64 ((m % 128 : Nat) : Int) 128 = 128 + ((m % 128 : Nat) : Int) := or128 (by constructor <;> omega)
      have e3 : (m : Int) / 2 ^ 7 = ((m / 128 : Nat) : Int) := by omega
      have h' : m / 128 < 128 ^ (k + 1) := by rw [Nat.pow_succ] at h2; exact Nat.div_lt_of_lt_mul (by rw [Nat.mul_comm]; exact h2)
      have i1 : A.length + 1 ≤ 17179869184 := by omega
      obtain ⟨v, B, q1, q2, q3⟩ := ih K (m / 128) (A ++ [b8 (128 + ((m % 128 : Nat) : Int))]) (by omega) h' (by omega) (by simp; omega)
      rw [if_pos (by omega), if_pos i1, e1, e2, e3, q1, varF, if_pos h]
      exact ⟨v, B, rfl, by rw [q2]; simp, q3⟩
    · rw [if_neg (by omega), varF, if_neg h]
      exact ⟨_, _, rfl, rfl, by omega⟩
theorem p_Var (F : Nat) (m : Nat) (hf : 100 < F) (hm : m ≤ 562949953421311) : m_impl_Var F (m : Int) = some (varF 6 m) := by
  unfold m_impl_Var
  obtain ⟨v, B, e1, e2, e3⟩ := p_Var_L F 6 F m [] (by omega) (Nat.lt_of_le_of_lt hm (by decide)) (by omega) (by simp)
  have i1 : B.length + 1 ≤ 17179869184 := by omega
  rw [p_within, Option.bind_some, if_pos (inB_true.2 (by omega)), e1]
  rw [List.nil_append] at e2
  show (if B.length + 1 ≤ 17179869184 then some (B ++ [b8 v]) else none) = _
  rw [if_pos i1, e2]
theorem p_VarNo (F : Nat) (n : Int) (h : n < 0 ∨ 562949953421311 < n) : m_impl_Var F n = some [] := by
  unfold m_impl_Var
  rw [p_within, Option.bind_some, if_neg (fun q => by have := inB_true.1 q; omega)]
theorem p_Var_any (F : Nat) (n : Int) (hf : 100 < F) : ∃ s, m_impl_Var F n = some s ∧ s.length ≤ 7 ∧ ((s ≠ []) ↔ (0 ≤ n ∧ n ≤ 562949953421311)) := by
  by_cases h : 0 ≤ n ∧ n ≤ 562949953421311
  · obtain ⟨m, rfl⟩ := Int.eq_ofNat_of_zero_le h.1
    have hl := varF_len 6 m
    exact ⟨_, p_Var F m hf (by omega), hl.1, ⟨fun _ => h, fun _ q => by rw [q] at hl; simp at hl⟩⟩
  · exact ⟨[], p_VarNo F n (by omega), by simp, ⟨fun q => absurd rfl q, fun q => absurd q h⟩⟩
/-- Reading: what is found is the number's own text. -/
theorem p_ReadVar_L (F : Nat) (s : Str) (hs : s.length ≤ 1000) (hf : 100 < F) : ∀ (K i : Nat) (z : Int), i ≤ s.length → i ≤ 7 → 7 < i + K →
    m_impl_ReadVar_L0 F s K z (i : Int) = some (.brk ()) ∨ m_impl_ReadVar_L0 F s K z (i : Int) = some (.ret (0, 0)) ∨ ∃ (v : Int) (j : Nat), m_impl_ReadVar_L0 F s K z (i : Int) = some (.ret (v, (j : Int))) ∧ 0 < j ∧ j ≤ s.length ∧ m_impl_Var F v = some (s.take j) := by
  intro K
  induction K with
  | zero => intro i z h1 h2 h3; omega
  | succ K ih =>
    intro i z h1 h2 h3
    rw [m_impl_ReadVar_L0]
    by_cases h : i < s.length
    · by_cases h7 : i < 7
      · have hc := (s[i]).toNat_lt
        have hb : ((b8 (bits .and .u8 ((s[i]).toNat : Int) 127)).toNat : Int) = (((s[i]).toNat % 128 : Nat) : Int) := by rw [u8_and127, b8_val (by constructor <;> omega)]; omega
        have i1 : in64 (7 * (i : Int)) := in64_of (by omega) (by omega)
        have ht : (7 * (i : Int)).toNat = 7 * i := by omega
        have hpow : (2 : Int) ^ (7 * i) ≤ 4398046511104 := by
          have : (2 : Nat) ^ (7 * i) ≤ 2 ^ 42 := Nat.pow_le_pow_right (by decide) (by omega)
          have h2 : ((2 : Int) ^ (7 * i)) = (((2 : Nat) ^ (7 * i) : Nat) : Int) := by simp
          rw [h2]; omega
        have hpow0 : 0 ≤ (2 : Int) ^ (7 * i) := Int.pow_nonneg (by decide)
        have hmul : 0 ≤ (((s[i]).toNat % 128 : Nat) : Int) * 2 ^ (7 * i) ∧ (((s[i]).toNat % 128 : Nat) : Int) * 2 ^ (7 * i) ≤ 128 * 4398046511104 := by
          refine ⟨Int.mul_nonneg (by omega) hpow0, ?_⟩
          exact Int.le_trans (Int.mul_le_mul_of_nonneg_right (show (((s[i]).toNat % 128 : Nat) : Int) ≤ 128 by omega) hpow0) (Int.mul_le_mul_of_nonneg_left hpow (by decide))
        have i2 : (0 ≤ (7 * (i : Int)) ∧ (7 * (i : Int)) ≤ 63) ∧ in64 (((b8 (bits .and .u8 ((s[i]).toNat : Int) 127)).toNat : Int) * 2 ^ (7 * (i : Int)).toNat) := by
          refine ⟨by omega, ?_⟩
          rw [hb, ht]
          exact in64_of (by omega) (by omega)
        have i3 : in64 ((i : Int) + 1) := in64_of (by omega) (by omega)
        rw [if_pos (lt_cast h), if_pos (by omega), at?_lt h, Option.bind_some, if_pos i1, if_pos i2, Option.bind_some]
        generalize bits .or .i64 z (((b8 (bits .and .u8 ((s[i]).toNat : Int) 127)).toNat : Int) * 2 ^ (7 * (i : Int)).toNat) = z'
        by_cases hlt : ((s[i]).toNat : Int) < 128
        · obtain ⟨t, e1, e2, e3⟩ := p_Var_any F z' hf
          have hsub : sub s 0 ((i : Int) + 1) = s.take (i + 1) := by
            have := sub_nat s 0 (i + 1)
            rw [Int.natCast_zero] at this
            rw [cast_succ, this]; simp
          rw [if_pos hlt, if_pos i3, if_pos (by omega), e1, Option.bind_some, hsub]
          by_cases ht : t = s.take (i + 1)
          · rw [if_pos ht, if_pos i3, cast_succ]
            exact .inr (.inr ⟨z', i + 1, rfl, by omega, by omega, by rw [e1, ht]⟩)
          · rw [if_neg ht]; exact .inr (.inl rfl)
        · rw [if_neg hlt, if_pos i3, cast_succ]
          exact ih (i + 1) z' (by omega) (by omega) (by omega)
      · rw [if_pos (lt_cast h), if_neg (by omega)]; exact .inl rfl
    · rw [if_neg (ge_cast h)]; exact .inl rfl
theorem p_ReadVar_any (F : Nat) (s : Str) (hs : s.length ≤ 1000) (hf : 100 < F) : ∃ (v : Int) (j : Nat), m_impl_ReadVar F s = some (v, (j : Int)) ∧ (0 < j → j ≤ s.length ∧ m_impl_Var F v = some (s.take j)) := by
  unfold m_impl_ReadVar
  have := p_ReadVar_L F s hs hf F 0 0 (by omega) (by omega) (by omega)
  simp only [Int.natCast_zero] at this
  rcases this with e | e | ⟨v, j, e, h1, h2, h3⟩
  · rw [e]; exact ⟨0, 0, rfl, fun h => by omega⟩
  · rw [e]; exact ⟨0, 0, rfl, fun h => by omega⟩
  · rw [e]; exact ⟨v, j, rfl, fun _ => ⟨h2, h3⟩⟩
/-- Reading what was written. -/
theorem pw128 (i : Nat) : (2 : Int) ^ (7 * i) = ((128 ^ i : Nat) : Int) := by
  have : (2 : Nat) ^ (7 * i) = 128 ^ i := by rw [Nat.pow_mul]
  rw [← this]; simp
theorem p_ReadVar_back (F : Nat) (M : Nat) (tail : Str) (hf : 100 < F) (hM : M ≤ 562949953421311) : ∀ (k K i a q : Nat), i + k = 6 → 7 < i + K → M = a + 128 ^ i * q → a < 128 ^ i → q < 128 ^ (k + 1) →
    (varF 6 M ++ tail).drop i = varF k q ++ tail → (varF 6 M).length = i + (varF k q).length →
    m_impl_ReadVar_L0 F (varF 6 M ++ tail) K (a : Int) (i : Int) = some (.ret ((M : Int), ((varF 6 M).length : Int))) := by
  have head : ∀ (K i a q : Nat) (c : UInt8) (R : Str), i ≤ 6 → 7 < i + (K + 1) → a < 128 ^ i → a + 128 ^ i * (c.toNat % 128) ≤ M → (varF 6 M ++ tail).drop i = c :: R →
      m_impl_ReadVar_L0 F (varF 6 M ++ tail) (K + 1) (a : Int) (i : Int) =
        if c.toNat < 128 then (if m_impl_Var F ((a + 128 ^ i * (c.toNat % 128) : Nat) : Int) = some ((varF 6 M ++ tail).take (i + 1)) then some (.ret (((a + 128 ^ i * (c.toNat % 128) : Nat) : Int), ((i + 1 : Nat) : Int))) else some (.ret (0, 0)))
        else m_impl_ReadVar_L0 F (varF 6 M ++ tail) K ((a + 128 ^ i * (c.toNat % 128) : Nat) : Int) ((i + 1 : Nat) : Int) := by
    intro K i a q c R h1 h2 h3 h4 h5
    generalize hs : varF 6 M ++ tail = s at h5 ⊢
    have hlt : i < s.length := by
      rcases Nat.lt_or_ge i s.length with h | h
      · exact h
      · rw [List.drop_eq_nil_of_le h] at h5; cases h5
    have hc : s[i] = c := by rw [drop_cons hlt] at h5; exact (List.cons.inj h5).1
    have hcl := c.toNat_lt
    have hb : ((b8 (bits .and .u8 (c.toNat : Int) 127)).toNat : Int) = ((c.toNat % 128 : Nat) : Int) := by rw [u8_and127, b8_val (by constructor <;> omega)]; omega
    have ht : (7 * (i : Int)).toNat = 7 * i := by omega
    have hp := pw128 i
    have hle : 128 ^ i * (c.toNat % 128) ≤ 562949953421311 := by omega
    have hx : ((c.toNat % 128 : Nat) : Int) * 2 ^ (7 * i) = ((128 ^ i * (c.toNat % 128) : Nat) : Int) := by rw [hp, Int.natCast_mul, Int.mul_comm]
    have i1 : in64 (7 * (i : Int)) := in64_of (by omega) (by omega)
    have i2 : (0 ≤ (7 * (i : Int)) ∧ (7 * (i : Int)) ≤ 63) ∧ in64 (((b8 (bits .and .u8 (c.toNat : Int) 127)).toNat : Int) * 2 ^ (7 * (i : Int)).toNat) := by
      refine ⟨by omega, ?_⟩
      rw [hb, ht, hx]
      exact in64_of (by omega) (by omega)
    have i3 : in64 ((i : Int) + 1) := in64_of (by omega) (by omega)
    have hor : bits .or .i64 (a : Int) (((b8 (bits .and .u8 (c.toNat : Int) 127)).toNat : Int) * 2 ^ (7 * (i : Int)).toNat) = ((a + 128 ^ i * (c.toNat % 128) : Nat) : Int) := by
      rw [hb, ht, or64_comm, i64_join (7 * i) (by rw [hx]; omega) (by rw [Int.mul_emod_left]) (by rw [hx]; omega) (by omega) (by rw [hp]; omega) (by omega), hx]
      omega
    rw [m_impl_ReadVar_L0, if_pos (lt_cast hlt), if_pos (by omega), at?_lt hlt, hc, Option.bind_some, if_pos i1, if_pos i2, Option.bind_some, hor]
    by_cases hq : c.toNat < 128
    · obtain ⟨t, e1, e2, e3⟩ := p_Var_any F ((a + 128 ^ i * (c.toNat % 128) : Nat) : Int) hf
      have hsub : sub s 0 ((i : Int) + 1) = s.take (i + 1) := by
        have := sub_nat s 0 (i + 1)
        rw [Int.natCast_zero] at this
        rw [cast_succ, this]; simp
      rw [if_pos (by omega), if_pos i3, if_pos (by omega), e1, Option.bind_some, hsub, if_pos hq]
      by_cases ht : t = s.take (i + 1)
      · rw [if_pos ht, if_pos i3, if_pos (by rw [ht]), cast_succ]
      · rw [if_neg ht, if_neg (fun q => ht (Option.some.inj q))]
    · rw [if_neg (by omega), if_pos i3, if_neg hq, cast_succ]
  have last : ∀ (K i a q k : Nat), i ≤ 6 → 7 < i + (K + 1) → M = a + 128 ^ i * q → a < 128 ^ i → q < 128 → (varF 6 M ++ tail).drop i = b8 (q : Int) :: tail → (varF 6 M).length = i + 1 →
      m_impl_ReadVar_L0 F (varF 6 M ++ tail) (K + 1) (a : Int) (i : Int) = some (.ret ((M : Int), ((varF 6 M).length : Int))) := by
    intro K i a q k h1 h2 h3 h4 h5 h6 h7
    have hb : (b8 (q : Int)).toNat = q := by have := b8_val (x := (q : Int)) (by constructor <;> omega); omega
    have hm : q % 128 = q := Nat.mod_eq_of_lt h5
    rw [head K i a q (b8 (q : Int)) tail h1 h2 h4 (by rw [hb, hm]; omega) h6, hb, hm, if_pos h5, ← h3, p_Var F M hf hM, h7, if_pos]
    rw [← h7]; simp
  intro k
  induction k with
  | zero =>
    intro K i a q h1 h2 h3 h4 h5 h6 h7
    obtain ⟨K, rfl⟩ : ∃ j, K = j + 1 := ⟨K - 1, by omega⟩
    exact last K i a q 0 (by omega) h2 h3 h4 (by simpa using h5) h6 h7
  | succ k ih =>
    intro K i a q h1 h2 h3 h4 h5 h6 h7
    obtain ⟨K, rfl⟩ : ∃ j, K = j + 1 := ⟨K - 1, by omega⟩
    by_cases hq : 127 < q
    · have hv : varF (k + 1) q = b8 (128 + ((q % 128 : Nat) : Int)) :: varF k (q / 128) := by rw [varF, if_pos hq]
      rw [hv] at h6 h7
      have hb : (b8 (128 + ((q % 128 : Nat) : Int))).toNat = 128 + q % 128 := by have := b8_val (x := 128 + ((q % 128 : Nat) : Int)) (by constructor <;> omega); omega
      have hm : (128 + q % 128) % 128 = q % 128 := by omega
      have hsplit : 128 ^ i * q = 128 ^ i * (q % 128) + 128 ^ (i + 1) * (q / 128) := by
        have h0 : 128 ^ i * q = 128 ^ i * (128 * (q / 128) + q % 128) := congrArg (128 ^ i * ·) (Nat.div_add_mod q 128).symm
        rw [h0, Nat.mul_add, Nat.pow_succ, Nat.mul_assoc]; omega
      have hlow : 128 ^ i * (q % 128) ≤ 128 ^ i * 127 := Nat.mul_le_mul_left _ (by omega)
      have hdrop : (varF 6 M ++ tail).drop (i + 1) = varF k (q / 128) ++ tail := by
        have : (varF 6 M ++ tail).drop (i + 1) = ((varF 6 M ++ tail).drop i).drop 1 := by rw [List.drop_drop]
        rw [this, h6]; rfl
      rw [head K i a q _ _ (by omega) h2 h4 (by rw [hb, hm]; omega) h6, hb, hm, if_neg (by omega)]
      refine ih K (i + 1) (a + 128 ^ i * (q % 128)) (q / 128) (by omega) (by omega) (by rw [h3, hsplit]; omega) (by rw [Nat.pow_succ]; omega) ?_ hdrop (by rw [h7, List.length_cons]; omega)
      rw [Nat.pow_succ] at h5; exact Nat.div_lt_of_lt_mul (by rw [Nat.mul_comm]; exact h5)
    · have hv : varF (k + 1) q = [b8 (q : Int)] := by rw [varF, if_neg hq]
      rw [hv] at h6 h7
      exact last K i a q k (by omega) h2 h3 h4 (by omega) h6 h7
theorem p_ReadVarBack (F : Nat) (M : Nat) (tail : Str) (hf : 100 < F) (hM : M ≤ 562949953421311) : m_impl_ReadVar F (varF 6 M ++ tail) = some ((M : Int), ((varF 6 M).length : Int)) := by
  unfold m_impl_ReadVar
  have := p_ReadVar_back F M tail hf hM 6 F 0 0 M (by omega) (by omega) (by simp) (by decide) (Nat.lt_of_le_of_lt hM (by decide)) (by simp) (by simp)
  simp only [Int.natCast_zero] at this
  rw [this]; rfl

/-! Decimals of all numbers. -/
theorem p_DLX (F : Nat) : ∀ (d K n : Nat) (A : Str), (digs n).length = d → d < K → A.length + d ≤ 1000 → n ≤ 9223372036854775808 → (m_impl_Dec_L0 F K A (n : Int) = some (A ++ digs n)) ∧ (m_impl_Dec_L0 F K A (-(n : Int)) = some (A ++ digs n)) := by
  intro d
  induction d with
  | zero =>
    intro K n A h1 h2 h3 h4
    obtain ⟨K, rfl⟩ : ∃ j, K = j + 1 := ⟨K - 1, by omega⟩
    have : n = 0 := by
      rcases Nat.eq_zero_or_pos n with h | h
      · exact h
      · rw [digs_pos (by omega)] at h1; simp at h1
    subst this
    rw [m_impl_Dec_L0, m_impl_Dec_L0, digs_zero]
    simp
  | succ d ih =>
    intro K n A h1 h2 h3 h4
    obtain ⟨K, rfl⟩ : ∃ j, K = j + 1 := ⟨K - 1, by omega⟩
    have h : ¬ n = 0 := fun q => by rw [q, digs_zero] at h1; simp at h1
    have h1' : (digs (n / 10)).length = d := by rw [digs_pos h] at h1; simpa using h1
    have nz : (10 : Int) ≠ 0 := by decide
    have i1 : in64 (48 + ((n % 10 : Nat) : Int)) := in64_of (by omega) (by omega)
    have i2 : in64 ((n / 10 : Nat) : Int) := in64_of (by omega) (by omega)
    have i2' : in64 (-((n / 10 : Nat) : Int)) := in64_of (by omega) (by omega)
    have i3 : A.length + 1 ≤ 17179869184 := by omega
    obtain ⟨e1, e2⟩ := ih K (n / 10) (A ++ [b8 (48 + ((n % 10 : Nat) : Int))]) h1' (by omega) (by simp; omega) (by omega)
    constructor
    · rw [m_impl_Dec_L0, if_neg (by omega), if_pos nz, tm, td, if_neg (show ¬ ((n % 10 : Nat) : Int) < 0 by omega), Option.bind_some, if_pos i1, if_pos i3, Option.bind_some, if_pos ⟨nz, i2⟩, e1, digs_pos h, List.append_assoc]; rfl
    · rw [m_impl_Dec_L0, if_neg (by omega), if_pos nz, tmn, tdn, dg, Option.bind_some, if_pos i1, if_pos i3, Option.bind_some, if_pos ⟨nz, i2'⟩, e2, digs_pos h, List.append_assoc]; rfl
theorem digs_len20 {n : Nat} (h : n ≤ 9223372036854775808) : (digs n).length ≤ 19 := digs_lenP 19 n (Int.lt_of_le_of_lt (Int.ofNat_le.2 h) (by decide))
theorem decI_len {z : Int} (h : in64 z) : (decI z).length ≤ 20 := by
  unfold in64 at h
  have := digs_len20 (n := z.natAbs) (by omega)
  unfold decI
  split
  · simp
  · split
    · simp; omega
    · simp; omega
theorem p_DecX (F : Nat) {z : Int} (h : in64 z) (hf : 1000 < F) : m_impl_Dec F z = some (decI z) := by
  unfold m_impl_Dec decI
  by_cases h0 : z = 0
  · rw [if_pos h0, if_pos h0]
  · rw [if_neg h0, if_neg h0]
    have hb := h
    unfold in64 at hb
    have hl := digs_len20 (n := z.natAbs) (by omega)
    obtain ⟨d1, d2⟩ := p_DLX F _ F z.natAbs [] rfl (by omega) (by simp; omega) (by omega)
    rw [List.nil_append] at d1 d2
    by_cases hn : z < 0
    · have ez : z = -(z.natAbs : Int) := by omega
      have e2 := p_rev F (digs z.natAbs ++ [45]) (by simp <;> omega) F 0 (digs z.natAbs ++ [45]) rfl (fun k hk => by rw [if_neg (by omega)]) (by simp <;> omega) (by omega)
      simp only [Int.natCast_zero, Int.sub_zero] at e2
      have d2' : m_impl_Dec_L0 F F [] z = some (digs z.natAbs) := by rw [ez]; exact (by rw [show (-(z.natAbs : Int)).natAbs = z.natAbs by omega]; exact d2)
      have i1 : (digs z.natAbs).length + 1 ≤ 17179869184 := by omega
      have i2 : in64 (((digs z.natAbs ++ [45]).length : Int) - 1) := in64_of (by simp <;> omega) (by simp <;> omega)
      rw [d2', Option.bind_some, if_pos hn, if_pos hn, if_pos i1, Option.bind_some, if_pos i2, e2, Option.bind_some, List.reverse_append]
      rfl
    · have ez : z = (z.natAbs : Int) := by omega
      have e2 := p_rev F (digs z.natAbs) (by omega) F 0 (digs z.natAbs) rfl (fun k hk => by rw [if_neg (by omega)]) (by omega) (by omega)
      simp only [Int.natCast_zero, Int.sub_zero] at e2
      have d1' : m_impl_Dec_L0 F F [] z = some (digs z.natAbs) := by rw [ez]; exact (by rw [show ((z.natAbs : Int)).natAbs = z.natAbs by omega]; exact d1)
      have i2 : in64 (((digs z.natAbs).length : Int) - 1) := in64_of (by omega) (by omega)
      rw [d1', Option.bind_some, if_neg hn, if_neg hn, Option.bind_some, if_pos i2, e2, Option.bind_some]
theorem decI_inj {u v : Int} (h : decI u = decI v) : u = v := by
  have key : ∀ w : Int, (if (decI w).head? = some 45 then 0 - dvl 0 ((decI w).drop 1) else dvl 0 (decI w)) = w := by
    intro w
    unfold decI
    by_cases h0 : w = 0
    · subst h0; decide
    · rw [if_neg h0]
      have hd := dvl_digs w.natAbs
      by_cases hn : w < 0
      · rw [if_pos hn, if_pos (show (45 :: (digs w.natAbs).reverse).head? = some 45 from rfl)]; show 0 - dvl 0 (digs w.natAbs).reverse = w; omega
      · rw [if_neg hn, if_neg]
        · omega
        · intro hq
          have : (45 : UInt8) ∈ (digs w.natAbs).reverse := List.mem_of_head? hq
          have := digs_isD _ 45 (List.mem_reverse.1 this)
          simp [isD] at this
  rw [← key u, ← key v, h]
theorem i_ReadDec (F : Nat) (x : Str) (hx : x.length ≤ 1048576) (hf : 1048580 < F) : ∃ v b, m_impl_ReadDec F x = some (v, b) ∧ (b = true → x = decI v ∧ -1000000000 < v ∧ v < 1000000000) ∧ (∀ u, -1000000000 < u → u < 1000000000 → x = decI u → b = true) := by
  obtain ⟨sg, hsg, g1, g3⟩ : ∃ sg : Nat, (sg ≤ 1 ∧ sg ≤ x.length) ∧ ((if 0 < (x.length : Int) then (at? x 0).bind fun c1 => if (c1.toNat : Int) = 45 then some (1 : Int) else some 0 else some 0) = some (sg : Int)) ∧ (sg = 1 ↔ ∃ s, x = 45 :: s) := by
    cases x with
    | nil => exact ⟨0, ⟨by omega, by simp⟩, by simp, by simp⟩
    | cons c s =>
      by_cases hc : (c.toNat : Int) = 45
      · have hc' : c = 45 := UInt8.toNat_inj.1 (by simpa using (show c.toNat = 45 by omega))
        subst hc'
        exact ⟨1, ⟨by omega, by simp⟩, by simp [at?], by simp⟩
      · refine ⟨0, ⟨by omega, by simp⟩, by simp [at?, hc], ⟨fun h => by omega, fun ⟨s', h⟩ => ?_⟩⟩
        simp only [List.cons.injEq] at h
        exact absurd (by rw [h.1]; rfl) hc
  unfold m_impl_ReadDec
  rw [g1, Option.bind_some, if_pos (in64_of (by omega) (by omega)), p_within, Option.bind_some]
  by_cases hI : inB ((x.length : Int) - (sg : Int)) 1 9 = true
  · have hl := inB_true.1 hI
    obtain ⟨r, r2⟩ := p_Read_L F x hx F sg 0 0 (by omega) (by omega) (by omega) (by decide)
    rw [if_pos hI, r]
    by_cases ha : (x.drop sg).all isD = true
    · obtain ⟨r3, r4⟩ := r2 ha
      rw [if_pos ha]
      have hz : (if (sg : Int) = 1 then (if in64 (0 - dvl 0 (x.drop sg)) then some (0 - dvl 0 (x.drop sg)) else none) else some (dvl 0 (x.drop sg))) = some (if sg = 1 then 0 - dvl 0 (x.drop sg) else dvl 0 (x.drop sg)) := by
        by_cases hs : sg = 1
        · rw [if_pos (by omega), if_pos (in64_of (by omega) (by omega)), if_pos hs]
        · rw [if_neg (by omega), if_neg hs]
      have hb : in64 (if sg = 1 then 0 - dvl 0 (x.drop sg) else dvl 0 (x.drop sg)) := in64_of (by split <;> omega) (by split <;> omega)
      simp only [Option.bind_some, contL, un1]
      rw [hz, Option.bind_some, p_DecX F hb (by omega), Option.bind_some]
      by_cases hq : decI (if sg = 1 then 0 - dvl 0 (x.drop sg) else dvl 0 (x.drop sg)) = x
      · rw [if_pos hq]; exact ⟨_, _, rfl, fun _ => ⟨hq.symm, by split <;> omega, by split <;> omega⟩, fun _ _ _ _ => rfl⟩
      · rw [if_neg hq]; exact ⟨_, _, rfl, (fun h => by cases h), fun u hu1 hu2 hxu => absurd hxu.symm (by rw [← (decI_parse hu1 hu2 hxu hsg.1 g3).2.2] ; exact hq)⟩
    · rw [if_neg ha]
      exact ⟨0, false, rfl, (fun h => by cases h), fun u hu1 hu2 hxu => absurd (decI_parse hu1 hu2 hxu hsg.1 g3).2.1 ha⟩
  · rw [if_neg hI]
    exact ⟨0, false, rfl, (fun h => by cases h), fun u hu1 hu2 hxu => absurd (decI_parse hu1 hu2 hxu hsg.1 g3).1 hI⟩
/-! The draws. -/
section
variable (F : Nat) (x : List UInt8) (hl : x.length ≤ 1048576)
include hl
theorem dn_Num (p s : Int) (hp : 0 ≤ p) : W (m_spec_l1Num F x p s) (fun t => 0 ≤ t.2.1 ∧ in64 t.1) := by
  have below : ∀ (p s n : Int), 0 ≤ p → W (m_spec_l1Below F x p s n) (fun t => 0 ≤ t.2.1 ∧ 0 ≤ t.1 ∧ (0 < n → t.1 < n)) := fun p s n hp => by
    obtain ⟨v, p', s', e, h1, h2, _, h⟩ := p_l1Below F x p s n hl hp
    exact ⟨(v, p', s'), e, h, h1, h2⟩
  unfold m_spec_l1Num
  refine (below p s 8 hp).bind3 fun k p s hk => ?_
  have hp := hk.1
  simp only at hp
  refine .ite (fun _ => ?_) (fun _ => ?_)
  · obtain ⟨v, p', s', e, h1, h⟩ := p_l1PickInt F x p s [(-1), 0, 127, 128, 255, 256, 16383, 16384, 65535, 65536, 562949953421311, 562949953421312, 999999999, 1000000000, (-999999999), 9223372036854775807, (-9223372036854775808)] hl hp (by decide)
    rw [e]
    refine W.some (a := (v, p', s')) ⟨h, ?_⟩
    simp only [List.mem_cons, List.not_mem_nil, or_false] at h1
    rcases h1 with h | h | h | h | h | h | h | h | h | h | h | h | h | h | h | h | h <;> (simp only [h]; decide)
  refine .ite (fun _ => ?_) (fun _ => ?_)
  · refine (below p s 1000000000 hp).bind3 fun a p s ha => ?_
    obtain ⟨a1, a2, a3⟩ := ha
    have a4 := a3 (by decide)
    simp only at a1 a2 a4
    refine (below p s 1000000000 a1).bind3 fun b p s hb => ?_
    obtain ⟨b1, b2, b3⟩ := hb
    have b4 := b3 (by decide)
    simp only at b1 b2 b4
    have hm : 0 ≤ a * b ∧ a * b ≤ 1000000000 * 1000000000 := ⟨Int.mul_nonneg a2 b2, Int.le_trans (Int.mul_le_mul_of_nonneg_right (Int.le_of_lt a4) b2) (Int.mul_le_mul_of_nonneg_left (Int.le_of_lt b4) (by decide))⟩
    have : in64 (a * b) := in64_of (by omega) (by omega)
    exact .grd this (.some ⟨b1, this⟩)
  refine .ite (fun _ => ?_) (fun _ => ?_)
  · refine (below p s 100000 hp).bind3 fun a p s ha => ?_
    obtain ⟨a1, a2, a3⟩ := ha
    have a4 := a3 (by decide)
    simp only at a1 a2 a4
    have : in64 (0 - a) := in64_of (by omega) (by omega)
    exact .grd this (.some ⟨a1, this⟩)
  · refine (below p s 70000 hp).bind3 fun a p s ha => ?_
    obtain ⟨a1, a2, a3⟩ := ha
    have a4 := a3 (by decide)
    simp only at a1 a2 a4
    exact .some ⟨a1, in64_of (by show _ ≤ a; omega) (by show a ≤ _; omega)⟩
end
/-! Texts drawn. -/
section
variable (F : Nat) (x : List UInt8) (hl : x.length ≤ 1048576)
include hl
theorem dt_Below (p s n : Int) (hp : 0 ≤ p) : W (m_spec_l1Below F x p s n) (fun t => 0 ≤ t.2.1 ∧ 0 ≤ t.1 ∧ (0 < n → t.1 < n)) := by
  obtain ⟨v, p', s', e, h1, h2, _, h⟩ := p_l1Below F x p s n hl hp
  exact ⟨(v, p', s'), e, h, h1, h2⟩
theorem dt_Byte (p s : Int) (hp : 0 ≤ p) : W (m_spec_l1Byte F x p s) (fun t => 0 ≤ t.2.1 ∧ 0 ≤ t.1 ∧ t.1 ≤ 255) := by
  obtain ⟨v, p', s', e, h1, h2, h⟩ := p_l1Byte F x p s hl hp
  exact ⟨(v, p', s'), e, h, h1, h2⟩
theorem dt_Once (p s n : Int) (hp : 0 ≤ p) : W (m_spec_l1Once F x p s n) (fun t => 0 ≤ t.2.1) := by
  obtain ⟨v, p', s', e, h⟩ := p_l1Once F x p s n hl hp
  exact ⟨(v, p', s'), e, h⟩
theorem dt_Text_L (y : Int) : ∀ (K : Nat) (p s n : Int) (l : List UInt8), 0 < K ∧ n < (K : Int) → 0 ≤ p → n ≤ 1000 → (l.length ≤ 1000 ∧ (0 ≤ n → (l.length : Int) + n ≤ 1000)) →
    W (m_spec_l1Text_L0 F x y K p s l n) (fun t => 0 ≤ t.2.1 ∧ t.1.length ≤ 1000 ∧ (0 ≤ n → (t.1.length : Int) = (l.length : Int) + n)) := by
  intro K
  induction K with
  | zero => intro p s n l h1; omega
  | succ K ih =>
    intro p s n l h1 hp hn hln
    rw [m_spec_l1Text_L0]
    refine .ite (fun h => ?_) (fun h => .some ⟨hp, by show l.length ≤ 1000; omega, fun q => by show (l.length : Int) = _; omega⟩)
    refine W.bind3 (φ := fun t => 0 ≤ t.1 ∧ t.2.2.length = l.length + 1) ?_ fun p s l' hq => ?_
    · refine (dt_Byte F x hl p s hp).bind3 fun b p s hb => ?_
      obtain ⟨b1, b2, b3⟩ := hb
      simp only at b1 b2 b3
      refine W.bind (φ := fun _ => True) ?_ fun c _ => ?_
      · refine .ite (fun _ => .grd (by decide) (.some trivial)) (fun _ => .some trivial)
      refine W.bind (φ := fun _ => True) ?_ fun d _ => ?_
      · refine .ite (fun _ => .grd (by decide) (.grd ?_ (.some trivial))) (fun _ => .some trivial)
        have h1 := Int.tmod_lt_of_pos c (show (0 : Int) < 4 by decide)
        have h2 := Int.lt_tmod_of_pos c (show (0 : Int) < 4 by decide)
        exact in64_of (by omega) (by omega)
      exact .grd (by omega) (.some ⟨b1, by simp⟩)
    · obtain ⟨q1, q2⟩ := hq
      simp only at q1 q2
      refine .grd (in64_of (by omega) (by omega)) ((ih p s (n - 1) l' (by omega) q1 (by omega) (by omega)).mono fun t ht => ⟨ht.1, ht.2.1, fun _ => by have := ht.2.2 (by omega); omega⟩)
theorem dt_Text (hf : 2000 < F) (p s m : Int) (hp : 0 ≤ p) (hm : 0 ≤ m ∧ m ≤ 900) : W (m_spec_l1Text F x p s m) (fun t => 0 ≤ t.2.1 ∧ (t.1.length : Int) ≤ m) := by
  unfold m_spec_l1Text
  refine (dt_Below F x hl p s 4 hp).bind3 fun y p s hy => ?_
  have hp := hy.1
  simp only at hp
  refine W.bind3 (φ := fun t => 0 ≤ t.2.1 ∧ (t.1.length : Int) ≤ m) (.grd (in64_of (by omega) (by omega)) ?_) fun a b c h => .some h
  refine (dt_Below F x hl p s (m + 1) hp).bind3 fun n p s hn => ?_
  obtain ⟨n1, n2, n3⟩ := hn
  have n4 := n3 (by omega)
  simp only at n1 n2 n4
  refine (dt_Text_L F x hl y F p s n [] (by omega) n1 (by omega) ⟨by simp, fun _ => by simp; omega⟩).mono fun t ht => ⟨ht.1, ?_⟩
  have := ht.2.2 n2
  simp at this
  omega
theorem dt_Spoil (hf : 2000 < F) (p s : Int) (u : Str) (hp : 0 ≤ p) (hu : u.length ≤ 16777216) : W (m_spec_l1Spoil F x p s u) (fun t => 0 ≤ t.2.1 ∧ t.1.length ≤ u.length + 3) := by
  unfold m_spec_l1Spoil
  refine .ite (fun _ => (dt_Text F x hl hf p s 3 hp (by decide)).bind3 fun a b c h => .some ⟨h.1, by have := h.2; simp only at this; show a.length ≤ _; omega⟩) (fun h0 => ?_)
  have hpos : 0 < (u.length : Int) := by omega
  refine (dt_Below F x hl p s _ hp).bind3 fun k p s hk => ?_
  obtain ⟨k1, k2, k3⟩ := hk
  have k4 := k3 hpos
  simp only at k1 k2 k4
  refine (dt_Below F x hl p s 4 k1).bind3 fun v p s hv => ?_
  have hp := hv.1
  simp only at hp
  obtain ⟨n, rfl⟩ := Int.eq_ofNat_of_zero_le k2
  have s1 : (sub u 0 (n : Int)).length = n := by simp [sub]; omega
  have s2 : (sub u ((n : Int) + 1) (u.length : Int)).length = u.length - (n + 1) := by
    rw [show (n : Int) + 1 = ((n + 1 : Nat) : Int) by omega]; simp [sub]
  have s3 : (sub u (n : Int) (u.length : Int)).length = u.length - n := by simp [sub]
  have hat := W.at (l := u) (i := (n : Int)) ⟨by omega, k4⟩
  refine .ite (fun _ => .grd (by omega) (.grd (in64_of (by omega) (by omega)) (.grd (by omega) (.grd (by rw [s1, s2]; omega) (.some ⟨hp, by show List.length (_ ++ _) ≤ _; rw [List.length_append, s1, s2]; omega⟩))))) (fun _ => ?_)
  refine .ite (fun _ => .grd (by omega) (.grd (by omega) ((dt_Byte F x hl p s hp).bind3 fun b p s hb => .grd (by rw [s1]; simp; omega) (.grd (by rw [List.length_append, s1, s3]; simp; omega) (.some ⟨hb.1, by show List.length (_ ++ _) ≤ _; rw [List.length_append, List.length_append, s1, s3]; simp; omega⟩))))) (fun _ => ?_)
  refine .ite (fun _ => .grd (by omega) (.some ⟨hp, by show List.length _ ≤ _; rw [s1]; omega⟩)) (fun _ => ?_)
  refine .grd (by omega) (hat.bind fun c _ => .grd (in64_of (by omega) (by omega)) (.grd (by omega) ?_))
  refine (dt_Below F x hl p s 255 hp).bind3 fun b p s hb => ?_
  obtain ⟨b1, b2, b3⟩ := hb
  have b4 := b3 (by decide)
  simp only at b1 b2 b4
  exact .grd (in64_of (by omega) (by omega)) (.grd (by rw [s1]; simp; omega) (.grd (by rw [List.length_append, s1, s2]; simp; omega) (.some ⟨b1, by show List.length (_ ++ _) ≤ _; rw [List.length_append, List.length_append, s1, s2]; simp; omega⟩)))
end
end Go.Proofs.Ytikfmmfifhnbjaa
