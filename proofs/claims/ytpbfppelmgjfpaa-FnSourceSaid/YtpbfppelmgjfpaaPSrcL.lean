/- FnSource: draws, and the law. -/
import Derived.Test.YtpbfppelmgjfpaaPSrc
import Derived.Test.YtpbfppelmgjfpaaG4
import Derived.Laws.BitsLemmas
namespace Go.Proofs.Ytpbfppelmgjfpaa
open Go Go.RowKit
set_option linter.unusedVariables false
set_option linter.unusedSimpArgs false

theorem and_b (x : Int) (M : Nat) (hM : M < 4611686018427387904) : 0 ≤ bits .and .i64 x (M : Int) ∧ bits .and .i64 x (M : Int) ≤ (M : Int) := by
  have h := Nat.and_le_right (n := (BitVec.ofInt 64 x).toNat) (m := M % 2 ^ 64)
  have e : bits .and .i64 x (M : Int) = IntKind.i64.wrap (((BitVec.ofInt 64 x).toNat &&& (M % 2 ^ 64) : Nat) : Int) := by
    show IntKind.i64.wrap (((BitVec.ofInt 64 x &&& BitVec.ofInt 64 (M : Int)).toNat : Nat) : Int) = _
    rw [BitVec.toNat_and, BitVec.ofInt_natCast, BitVec.toNat_ofNat]
  rw [e, IntKind.wrap_i64]
  have : M % 2 ^ 64 = M := Nat.mod_eq_of_lt (by omega)
  rw [this] at h ⊢
  omega
theorem p_l1New_L (fuel : Nat) (x : List UInt8) (hl : x.length ≤ 1048576) : ∀ K n (s : Int), 0 ≤ s ∧ s ≤ 4611686018427 → n ≤ x.length → x.length < n + K →
    ∃ s', m_spec_l1New_L0 fuel x K s (n : Int) = some s' := by
  intro K
  induction K with
  | zero => intro n s hs h1 h2; omega
  | succ K ih =>
    intro n s hs h1 h2
    rw [m_spec_l1New_L0]
    by_cases h : n < x.length
    · by_cases h4 : (n : Int) < 4000
      · have hb : ((x[n].toNat : Nat) : Int) < 256 := by have := x[n].toNat_lt; omega
        have i1 : in64 (s * 131) := in64_of (by omega) (by omega)
        have i2 : in64 (s * 131 + (x[n].toNat : Int)) := in64_of (by omega) (by omega)
        have i3 : in64 (s * 131 + (x[n].toNat : Int) + 7) := in64_of (by omega) (by omega)
        simp only [if_pos (lt_cast h), if_pos h4, at?_lt h, Option.bind_some, if_pos i1, if_pos i2, if_pos i3, if_pos (in64_succ h (show x.length ≤ _ by omega))]
        have := and_b (s * 131 + (x[n].toNat : Int) + 7) 1073741823 (by omega)
        exact ih (n + 1) _ ⟨this.1, Int.le_trans this.2 (by omega)⟩ (by omega) (by omega)
      · simp only [if_pos (lt_cast h), if_neg h4]; exact ⟨_, rfl⟩
    · simp only [if_neg (ge_cast h)]; exact ⟨_, rfl⟩
theorem p_l1New (fuel : Nat) (x : List UInt8) (hl : x.length ≤ 1048576) (hf : x.length < fuel) : ∃ s, m_spec_l1New fuel x = some (0, s) := by
  unfold m_spec_l1New
  rw [if_pos (in64_of (by omega) (by omega))]
  obtain ⟨s, h⟩ := p_l1New_L fuel x hl fuel 0 (10101 + (x.length : Int)) (by omega) (by omega) (by omega)
  exact ⟨s, by erw [h]; rfl⟩
theorem p_l1Byte (fuel : Nat) (x : List UInt8) (p s : Int) (hl : x.length ≤ 1048576) (hp : 0 ≤ p) : ∃ b p' s', m_spec_l1Byte fuel x p s = some (b, p', s') ∧ 0 ≤ b ∧ b ≤ 255 ∧ 0 ≤ p' := by
  unfold m_spec_l1Byte
  by_cases h : p < (x.length : Int)
  · obtain ⟨v, hv⟩ := at?_some_iff (l := x) (i := p) ⟨hp, h⟩
    simp only [if_pos h, hv, Option.bind_some, bind3]
    refine ⟨_, _, _, rfl, (and_b _ 255 (by omega)).1, (and_b _ 255 (by omega)).2, ?_⟩
    rw [IntKind.wrap_i64]; omega
  · simp only [if_neg h, Option.bind_some, bind3]
    exact ⟨_, _, _, rfl, (and_b _ 255 (by omega)).1, (and_b _ 255 (by omega)).2, hp⟩
theorem p_l1Below (fuel : Nat) (x : List UInt8) (p s n : Int) (hl : x.length ≤ 1048576) (hp : 0 ≤ p) : ∃ v p' s', m_spec_l1Below fuel x p s n = some (v, p', s') ∧ 0 ≤ v ∧ (0 < n → v < n) ∧ (n ≤ 0 → v = 0) ∧ 0 ≤ p' := by
  unfold m_spec_l1Below
  by_cases h0 : n ≤ 0
  · rw [if_pos h0]; exact ⟨_, _, _, rfl, Int.le_refl _, fun q => by omega, fun _ => rfl, hp⟩
  · rw [if_neg h0]
    have hn : (n : Int) ≠ 0 := by omega
    by_cases h1 : n ≤ 256
    · rw [if_pos h1]
      obtain ⟨b, p1, s1, e1, b1, b2, b3⟩ := p_l1Byte fuel x p s hl hp
      simp only [e1, bind3, Option.bind_some, if_pos hn]
      exact ⟨_, _, _, rfl, by rw [Int.tmod_eq_emod_of_nonneg b1]; exact Int.emod_nonneg _ hn, fun _ => by rw [Int.tmod_eq_emod_of_nonneg b1]; exact Int.emod_lt_of_pos _ (by omega), fun q => by omega, b3⟩
    · rw [if_neg h1]
      obtain ⟨b, p1, s1, e1, b1, b2, b3⟩ := p_l1Byte fuel x p s hl hp
      obtain ⟨c, p2, s2, e2, c1, c2, c3⟩ := p_l1Byte fuel x p1 s1 hl b3
      obtain ⟨d, p3, s3, e3, d1, d2, d3⟩ := p_l1Byte fuel x p2 s2 hl c3
      obtain ⟨e, p4, s4, e4, f1, f2, f3⟩ := p_l1Byte fuel x p3 s3 hl d3
      have i1 : in64 (b * 16777216) := in64_of (by omega) (by omega)
      have i2 : in64 (c * 65536) := in64_of (by omega) (by omega)
      have i3 : in64 (b * 16777216 + c * 65536) := in64_of (by omega) (by omega)
      have i4 : in64 (d * 256) := in64_of (by omega) (by omega)
      have i5 : in64 (b * 16777216 + c * 65536 + d * 256) := in64_of (by omega) (by omega)
      have i6 : in64 (b * 16777216 + c * 65536 + d * 256 + e) := in64_of (by omega) (by omega)
      simp only [e1, e2, e3, e4, bind3, Option.bind_some, if_pos i1, if_pos i2, if_pos i3, if_pos i4, if_pos i5, if_pos i6, if_pos hn]
      have hz : 0 ≤ b * 16777216 + c * 65536 + d * 256 + e := by omega
      exact ⟨_, _, _, rfl, by rw [Int.tmod_eq_emod_of_nonneg hz]; exact Int.emod_nonneg _ hn, fun _ => by rw [Int.tmod_eq_emod_of_nonneg hz]; exact Int.emod_lt_of_pos _ (by omega), fun q => by omega, f3⟩
theorem p_l1Once (fuel : Nat) (x : List UInt8) (p s n : Int) (hl : x.length ≤ 1048576) (hp : 0 ≤ p) : ∃ v p' s', m_spec_l1Once fuel x p s n = some (v, p', s') ∧ 0 ≤ p' := by
  obtain ⟨v, p', s', e, h1, h2, h3, h4⟩ := p_l1Below fuel x p s n hl hp
  exact ⟨decide (v = 0), p', s', by simp only [m_spec_l1Once, e, bind3, Option.bind_some], h4⟩
theorem p_l1PickInt (fuel : Nat) (x : List UInt8) (p s : Int) (l : List Int) (hl : x.length ≤ 1048576) (hp : 0 ≤ p) (hn : 0 < l.length) : ∃ v p' s', m_spec_l1PickInt fuel x p s l = some (v, p', s') ∧ v ∈ l ∧ 0 ≤ p' := by
  obtain ⟨v, p', s', e, h1, h2, h3, h4⟩ := p_l1Below fuel x p s (l.length : Int) hl hp
  obtain ⟨u, hu⟩ := at?_some_iff (l := l) (i := v) ⟨h1, h2 (by omega)⟩
  exact ⟨u, p', s', by simp only [m_spec_l1PickInt, e, bind3, Option.bind_some, hu], List.mem_of_getElem? (at?_some hu).2, h4⟩

/-! What a model yields, if it yields. -/
def W {α : Type} (o : Option α) (φ : α → Prop) : Prop := ∃ a, o = some a ∧ φ a
theorem W.some {α : Type} {a : α} {φ : α → Prop} (h : φ a) : W (some a) φ := ⟨a, rfl, h⟩
theorem W.mono {α : Type} {o : Option α} {φ ψ : α → Prop} (h : W o φ) (k : ∀ a, φ a → ψ a) : W o ψ := let ⟨a, e, h⟩ := h; ⟨a, e, k a h⟩
theorem W.bind {α β : Type} {o : Option α} {f : α → Option β} {φ : α → Prop} {ψ : β → Prop} (h : W o φ) (k : ∀ a, φ a → W (f a) ψ) : W (o.bind f) ψ := by
  obtain ⟨a, e, h⟩ := h; rw [e]; exact k a h
theorem W.bind2 {α β γ : Type} {o : Option (α × β)} {f : α → β → Option γ} {φ : α × β → Prop} {ψ : γ → Prop} (h : W o φ) (k : ∀ a b, φ (a, b) → W (f a b) ψ) : W (bind2 o f) ψ := by
  obtain ⟨⟨a, b⟩, e, h⟩ := h; rw [e]; exact k a b h
theorem W.bind3 {α β γ δ : Type} {o : Option (α × β × γ)} {f : α → β → γ → Option δ} {φ : α × β × γ → Prop} {ψ : δ → Prop} (h : W o φ) (k : ∀ a b c, φ (a, b, c) → W (f a b c) ψ) : W (bind3 o f) ψ := by
  obtain ⟨⟨a, b, c⟩, e, h⟩ := h; rw [e]; exact k a b c h
theorem W.bind4 {α β γ δ ε : Type} {o : Option (α × β × γ × δ)} {f : α → β → γ → δ → Option ε} {φ : α × β × γ × δ → Prop} {ψ : ε → Prop} (h : W o φ) (k : ∀ a b c d, φ (a, b, c, d) → W (f a b c d) ψ) : W (bind4 o f) ψ := by
  obtain ⟨⟨a, b, c, d⟩, e, h⟩ := h; rw [e]; exact k a b c d h
theorem W.bind5 {α β γ δ ε ζ : Type} {o : Option (α × β × γ × δ × ε)} {f : α → β → γ → δ → ε → Option ζ} {φ : α × β × γ × δ × ε → Prop} {ψ : ζ → Prop} (h : W o φ) (k : ∀ a b c d e, φ (a, b, c, d, e) → W (f a b c d e) ψ) : W (bind5 o f) ψ := by
  obtain ⟨⟨a, b, c, d, e⟩, q, h⟩ := h; rw [q]; exact k a b c d e h
theorem W.bind6 {α β γ δ ε ζ η : Type} {o : Option (α × β × γ × δ × ε × ζ)} {f : α → β → γ → δ → ε → ζ → Option η} {φ : α × β × γ × δ × ε × ζ → Prop} {ψ : η → Prop} (h : W o φ) (k : ∀ a b c d e g, φ (a, b, c, d, e, g) → W (f a b c d e g) ψ) : W (bind6 o f) ψ := by
  obtain ⟨⟨a, b, c, d, e, g⟩, q, h⟩ := h; rw [q]; exact k a b c d e g h
theorem W.ite {α : Type} {p : Prop} [Decidable p] {a b : Option α} {φ : α → Prop} (h : p → W a φ) (k : ¬ p → W b φ) : W (if p then a else b) φ := by
  by_cases q : p
  · rw [if_pos q]; exact h q
  · rw [if_neg q]; exact k q
theorem W.grd {α : Type} {p : Prop} [Decidable p] {a : Option α} {φ : α → Prop} (q : p) (h : W a φ) : W (if p then a else none) φ := by rw [if_pos q]; exact h
theorem W.at {E : Type} {l : List E} {i : Int} (h : 0 ≤ i ∧ i < (l.length : Int)) : W (at? l i) (fun e => e ∈ l ∧ at? l i = .some e) := by
  obtain ⟨e, he⟩ := at?_some_iff h
  exact ⟨e, he, List.mem_of_getElem? (at?_some he).2, he⟩
/-- A loop's way on, or its way out. -/
theorem W.lpL {α β : Type} {o : Option (Lp α β)} {f : α → Option β} {φ : α → Prop} {ψ : β → Prop} (h : W o (fun r => match r with | .brk a => φ a | .ret b => ψ b)) (k : ∀ a, φ a → W (f a) ψ) : W (o.bind (contL f)) ψ := by
  obtain ⟨r, e, h⟩ := h
  rw [e]
  cases r with
  | brk a => exact k a h
  | ret b => exact ⟨b, rfl, h⟩

/-! The draws of code. -/
def small (v : Int) : Prop := -1 ≤ v ∧ v ≤ 70000
def okO (o : I4) : Prop := small o.c
def okL (l : List I4) : Prop := ∀ o ∈ l, okO o
theorem okL.snoc {l : List I4} (h : okL l) {o : I4} (ho : okO o) : okL (l ++ [o]) := fun q hq => by
  rcases List.mem_append.1 hq with hq | hq
  · exact h q hq
  · simp at hq; subst hq; exact ho
theorem okL.app {l m : List I4} (h : okL l) (k : okL m) : okL (l ++ m) := fun q hq => (List.mem_append.1 hq).elim (h q) (k q)
theorem okL.set {l : List I4} (h : okL l) {o : I4} (ho : okO o) (i : Nat) : okL (l.set i o) := fun q hq => by
  rcases List.mem_or_eq_of_mem_set hq with hq | hq
  · exact h q hq
  · subst hq; exact ho
section
variable (F : Nat) (x : List UInt8) (hl : x.length ≤ 1048576)
include hl
theorem d_Below (p s n : Int) (hp : 0 ≤ p) : W (m_spec_l1Below F x p s n) (fun t => 0 ≤ t.2.1 ∧ 0 ≤ t.1 ∧ (0 < n → t.1 < n)) := by
  obtain ⟨v, p', s', e, h1, h2, _, h⟩ := p_l1Below F x p s n hl hp
  exact ⟨(v, p', s'), e, h, h1, h2⟩
theorem d_Once (p s n : Int) (hp : 0 ≤ p) : W (m_spec_l1Once F x p s n) (fun t => 0 ≤ t.2.1) := by
  obtain ⟨v, p', s', e, h⟩ := p_l1Once F x p s n hl hp
  exact ⟨(v, p', s'), e, h⟩
theorem d_Pick (p s : Int) (l : List Int) (hn : 0 < l.length) (hp : 0 ≤ p) : W (m_spec_l1PickInt F x p s l) (fun t => 0 ≤ t.2.1 ∧ t.1 ∈ l) := by
  obtain ⟨v, p', s', e, h1, h⟩ := p_l1PickInt F x p s l hl hp hn
  exact ⟨(v, p', s'), e, h, h1⟩
theorem d_Draw3 (p s : Int) (hp : 0 ≤ p) : W (m_spec_l3Draw F x p s) (fun t => 0 ≤ t.2.1 ∧ 0 ≤ t.1 ∧ t.1 ≤ 65535) := by
  unfold m_spec_l3Draw
  refine (d_Once F x hl p s 6 hp).bind3 fun a p s hp => ?_
  refine .ite (fun _ => ?_) (fun _ => ?_)
  · refine (d_Pick F x hl p s [0, 65535, 65534, 256] (by decide) hp).bind3 fun a p s hp => .some ?_
    obtain ⟨h1, h2⟩ := hp
    simp only [List.mem_cons, List.not_mem_nil, or_false] at h2
    exact ⟨h1, by rcases h2 with h | h | h | h <;> simp only [h] <;> decide, by rcases h2 with h | h | h | h <;> simp only [h] <;> decide⟩
  · refine (d_Below F x hl p s 9 hp).bind3 fun a p s hp => .some ?_
    obtain ⟨h1, h2, h3⟩ := hp
    have := h3 (by decide)
    simp only at h2 this
    exact ⟨h1, h2, by show a ≤ 65535; omega⟩
theorem d_Reg (p s : Int) (hp : 0 ≤ p) : W (m_spec_l4DrawReg F x p s) (fun t => 0 ≤ t.2.1 ∧ small t.1) := by
  unfold m_spec_l4DrawReg
  refine (d_Below F x hl p s 4 hp).bind3 fun a p s hp => .some ⟨hp.1, ?_⟩
  obtain ⟨h1, h2, h3⟩ := hp
  have := h3 (by decide)
  simp only at h2 this
  exact ⟨by show -1 ≤ a; omega, by show a ≤ 70000; omega⟩
theorem d_Cell (p s : Int) (hp : 0 ≤ p) : W (m_spec_l4DrawCell F x p s) (fun t => 0 ≤ t.2.1 ∧ small t.1) := by
  unfold m_spec_l4DrawCell
  refine (d_Once F x hl p s 8 hp).bind3 fun a p s hp => ?_
  have key : ∀ n : Int, 0 < n → n ≤ 70000 → W (bind3 (m_spec_l1Below F x p s n) fun a b c => some (a, b, c)) (fun t => 0 ≤ t.2.1 ∧ small t.1) := fun n h0 hn => by
    refine (d_Below F x hl p s n hp).bind3 fun a p s hp => .some ⟨hp.1, ?_⟩
    obtain ⟨h1, h2, h3⟩ := hp
    have := h3 h0
    simp only at h2 this
    exact ⟨by show -1 ≤ a; omega, by show a ≤ 70000; omega⟩
  exact .ite (fun _ => key 8 (by decide) (by decide)) (fun _ => key 3 (by decide) (by decide))
theorem d_Key (p s : Int) (hp : 0 ≤ p) : W (m_spec_l4DrawKey F x p s) (fun t => 0 ≤ t.2.1 ∧ small t.1) := by
  unfold m_spec_l4DrawKey
  refine (d_Once F x hl p s 4 hp).bind3 fun a p s hp => ?_
  refine .ite (fun _ => ?_) (fun _ => ?_)
  · refine (d_Below F x hl p s 8 hp).bind3 fun a p s hp => .some ⟨hp.1, ?_⟩
    obtain ⟨h1, h2, h3⟩ := hp
    have := h3 (by decide)
    simp only at h2 this
    exact ⟨by show -1 ≤ a; omega, by show a ≤ 70000; omega⟩
  · refine (d_Pick F x hl p s _ (by decide) hp).bind3 fun a p s hp => .some ⟨hp.1, ?_⟩
    have h2 := hp.2
    simp only [List.mem_cons, List.not_mem_nil, or_false] at h2
    rcases h2 with h | h | h <;> simp only [h, small] <;> omega
/-- A right operation of a kind, or none. -/
theorem d_Plain (p s o : Int) (hp : 0 ≤ p) : W (m_spec_l4Plain F x p s o) (fun t => 0 ≤ t.2.2.2.2.1 ∧ small t.2.2.1) := by
  unfold m_spec_l4Plain
  refine W.bind5 (φ := fun t => 0 ≤ t.2.2.2.1 ∧ small t.2.1) ?_ fun a b c p s hp => .some hp
  have z : small 0 := ⟨by decide, by decide⟩
  refine .ite (fun _ => (d_Reg F x hl p s hp).bind3 fun a p s hp => (d_Draw3 F x hl p s hp.1).bind3 fun b p s hp => .some ⟨hp.1, by have h2 : 0 ≤ b := hp.2.1; have h3 : b ≤ 65535 := hp.2.2; exact ⟨by show -1 ≤ b; omega, by show b ≤ 70000; omega⟩⟩) (fun _ => ?_)
  refine W.bind (φ := fun _ => True) (by split <;> (try split) <;> exact ⟨_, rfl, trivial⟩) fun b _ => ?_
  refine .ite (fun _ => (d_Reg F x hl p s hp).bind3 fun a p s hp => (d_Reg F x hl p s hp.1).bind3 fun b p s hb => (d_Reg F x hl p s hb.1).bind3 fun c p s hp => .some ⟨hp.1, hb.2⟩) (fun _ => ?_)
  refine .ite (fun _ => (d_Reg F x hl p s hp).bind3 fun a p s hp => (d_Cell F x hl p s hp.1).bind3 fun b p s hb => .some hb) (fun _ => ?_)
  refine .ite (fun _ => (d_Cell F x hl p s hp).bind3 fun a p s hp => (d_Reg F x hl p s hp.1).bind3 fun b p s hb => .some hb) (fun _ => ?_)
  refine .ite (fun _ => (d_Reg F x hl p s hp).bind3 fun a p s hp => (d_Below F x hl p s 3 hp.1).bind3 fun b p s hb => ?_) (fun _ => ?_)
  · obtain ⟨h1, h2, h3⟩ := hb
    have h4 := h3 (by decide)
    simp only at h2 h4
    exact .grd (in64_of (by omega) (by omega)) (.some ⟨h1, by show -1 ≤ 1 + b; omega, by show 1 + b ≤ 70000; omega⟩)
  refine W.bind (φ := fun _ => True) (by split <;> (try split) <;> exact ⟨_, rfl, trivial⟩) fun b _ => ?_
  refine .ite (fun _ => (d_Reg F x hl p s hp).bind3 fun a p s hp => .some ⟨hp.1, z⟩) (fun _ => ?_)
  refine .ite (fun _ => (d_Key F x hl p s hp).bind3 fun a p s hp => (d_Reg F x hl p s hp.1).bind3 fun b p s hb => (d_Reg F x hl p s hb.1).bind3 fun c p s hp => .some ⟨hp.1, hb.2⟩) (fun _ => ?_)
  refine .ite (fun _ => (d_Reg F x hl p s hp).bind3 fun a p s hp => (d_Key F x hl p s hp.1).bind3 fun b p s hb => .some hb) (fun _ => ?_)
  refine .ite (fun _ => (d_Key F x hl p s hp).bind3 fun a p s hp => (d_Reg F x hl p s hp.1).bind3 fun b p s hb => .some hb) (fun _ => ?_)
  exact .some ⟨hp, z⟩
/-- One more operation. -/
theorem d_snoc (p s o : Int) (hp : 0 ≤ p) (l : List I4) (n : Nat) (hn : l.length < n) (hn2 : n ≤ 1000) (ho : okL l) : W (bind6 (m_spec_l4Plain F x p s o) fun a b c d p s => if l.length + 1 ≤ 17179869184 then some (p, s, l ++ ([(⟨a, b, c, d⟩ : I4)] : List I4)) else none) (fun t => 0 ≤ t.1 ∧ t.2.2.length ≤ n ∧ okL t.2.2) := by
  refine (d_Plain F x hl p s o hp).bind6 fun a b c d p s hp => .grd (by omega) (.some ⟨hp.1, by simp; omega, ho.snoc hp.2⟩)
theorem d_snocB (p s n0 b0 : Int) (hp : 0 ≤ p) (h0 : 0 < n0) (h1 : n0 ≤ 100) (hb : 0 ≤ b0 ∧ b0 ≤ 100) (l : List I4) (n : Nat) (hn : l.length < n) (hn2 : n ≤ 1000) (ho : okL l) :
    W (bind3 (m_spec_l1Below F x p s n0) fun v p s => if in64 (b0 + v) then bind6 (m_spec_l4Plain F x p s (b0 + v)) fun a b c d p s => if l.length + 1 ≤ 17179869184 then some (p, s, l ++ ([(⟨a, b, c, d⟩ : I4)] : List I4)) else none else none) (fun t => 0 ≤ t.1 ∧ t.2.2.length ≤ n ∧ okL t.2.2) := by
  refine (d_Below F x hl p s n0 hp).bind3 fun v p s hv => ?_
  obtain ⟨h2, h3, h4⟩ := hv
  have h5 := h4 h0
  simp only at h2 h3 h5
  exact .grd (in64_of (by omega) (by omega)) (d_snoc F x hl p s _ h2 l n hn hn2 ho)
/-- What is asked of the draws one level below. -/
def RecOk (rcf : (List UInt8) → Int → Int → Int → Int → Bool → Option (List I4 × Int × Int)) (x : List UInt8) (most deep : Int) : Prop :=
  (∀ p s m k, 0 < deep → 0 ≤ p → 1 ≤ m → m + 3 ≤ most → W (rcf x p s m (deep - 1) k) (fun t => 0 ≤ t.2.1 ∧ t.1.length ≤ m.toNat ∧ okL t.1)) ∧
  (∀ p s k, 3 ≤ most → 0 ≤ p → W (rcf x p s 2 0 k) (fun t => 0 ≤ t.2.1 ∧ t.1.length ≤ 2 ∧ okL t.1))
theorem d_Gen_L (rcf : (List UInt8) → Int → Int → Int → Int → Bool → Option (List I4 × Int × Int)) (most deep : Int) (kid : Bool) (hm : 1 ≤ most ∧ most ≤ 100) (hd : deep ≤ 100 ∧ 0 ≤ deep) (hr : RecOk rcf x most deep) :
    ∀ (K : Nat) (p s n : Int) (l : List I4), 0 < K ∧ n < (K : Int) → 0 ≤ p → n ≤ 1000 → l.length ≤ most.toNat → okL l →
    W (m_spec_l5Gen_L0 F x most deep kid rcf K p s l n) (fun t => 0 ≤ t.2.1 ∧ t.1.length ≤ most.toNat ∧ okL t.1) := by
  intro K
  induction K with
  | zero => intro p s n l h1 hp hn hl2 ho; omega
  | succ K ih =>
    intro p s n l h1 hp hn hl2 ho
    rw [m_spec_l5Gen_L0]
    refine W.bind (φ := fun b => b = true → 0 < n ∧ (l.length : Int) < most) ?_ fun b hb => ?_
    · refine .ite (fun h => .some fun q => ⟨h, by simpa using q⟩) (fun h => .some fun q => by cases q)
    refine .ite (fun h => ?_) (fun _ => .some ⟨hp, hl2, ho⟩)
    obtain ⟨h2, h3⟩ := hb h
    have hlt : l.length < most.toNat := by omega
    have hmm : most.toNat ≤ 1000 := by omega
    have z : ∀ k : Int, okO ⟨k, 0, 0, 0⟩ := fun k => ⟨(by decide : (-1 : Int) ≤ 0), (by decide : (0 : Int) ≤ 70000)⟩
    refine W.bind3 (φ := fun t => 0 ≤ t.1 ∧ t.2.2.length ≤ most.toNat ∧ okL t.2.2) ?_ fun p s l' hq => .grd (in64_of (by omega) (by omega)) (ih p s (n - 1) l' (by omega) hq.1 (by omega) hq.2.1 hq.2.2)
    refine (d_Below F x hl p s 20 hp).bind3 fun v p s hv => ?_
    have hp := hv.1
    simp only at hp
    refine .ite (fun _ => d_snoc F x hl p s 5 hp l _ hlt hmm ho) (fun _ => ?_)
    refine .ite (fun _ => d_snoc F x hl p s 6 hp l _ hlt hmm ho) (fun _ => ?_)
    refine .ite (fun _ => d_snocB F x hl p s 4 1 hp (by decide) (by decide) (by decide) l _ hlt hmm ho) (fun _ => ?_)
    refine W.bind (φ := fun b => b = true → 0 < deep ∧ 4 ≤ most - (l.length : Int)) ?_ fun b hb => ?_
    · refine .ite (fun _ => .ite (fun h => .grd (in64_of (by omega) (by omega)) (.some fun q => ⟨h, by simpa using q⟩)) (fun _ => .some fun q => by cases q)) (fun _ => .some fun q => by cases q)
    refine .ite (fun h => ?_) (fun _ => ?_)
    · obtain ⟨g1, g2⟩ := hb h
      refine .grd (in64_of (by omega) (by omega)) (.grd (in64_of (by omega) (by omega)) (.grd (in64_of (by omega) (by omega)) ?_))
      refine (hr.1 p s (most - (l.length : Int) - 3) kid g1 hp (by omega) (by omega)).bind3 fun u p s hu => ?_
      obtain ⟨u1, u2, u3⟩ := hu
      simp only at u1 u2 u3
      refine (d_Plain F x hl p s 8 u1).bind6 fun a b c d p s hq => ?_
      have hp := hq.1
      simp only at hp
      refine .grd (by omega) (.grd (by simp; omega) ?_)
      have ho1 : okL ((l ++ ([(⟨a, b, c, d⟩ : I4)] : List I4)) ++ u) := (ho.snoc (o := ⟨a, b, c, d⟩) hq.2).app u3
      have hl1 : ((l ++ ([(⟨a, b, c, d⟩ : I4)] : List I4)) ++ u).length + 2 ≤ most.toNat := by simp; omega
      refine W.bind3 (φ := fun t => 0 ≤ t.1 ∧ t.2.2.length + 1 ≤ most.toNat ∧ okL t.2.2) ?_ fun p s l' hq => by
        obtain ⟨q1, q2, q3⟩ := hq
        simp only at q1 q2 q3
        exact .grd (by omega) (.some ⟨q1, by rw [List.length_append]; exact q2, q3.snoc (z 9)⟩)
      refine (d_Once F x hl p s 3 hp).bind3 fun e p s hp => ?_
      refine .ite (fun _ => .grd (by omega) (.some ⟨hp, by rw [List.length_append]; exact hl1, ho1.snoc (z 10)⟩)) (fun _ => .some ⟨hp, Nat.le_of_succ_le hl1, ho1⟩)
    refine W.bind (φ := fun b => b = true → 3 ≤ most - (l.length : Int)) ?_ fun b hb => ?_
    · refine .ite (fun _ => .grd (in64_of (by omega) (by omega)) (.some fun q => by simpa using q)) (fun _ => .some fun q => by cases q)
    refine .ite (fun h => ?_) (fun _ => ?_)
    · have g2 := hb h
      refine (hr.2 p s kid (by omega) hp).bind3 fun u p s hu => ?_
      obtain ⟨u1, u2, u3⟩ := hu
      simp only at u1 u2 u3
      refine (d_Plain F x hl p s 7 u1).bind6 fun a b c d p s hq => ?_
      refine .grd (by omega) (.grd (by simp; omega) (.some ⟨hq.1, by simp; omega, (ho.snoc ⟨by show -1 ≤ (u.length : Int); omega, by show (u.length : Int) ≤ 70000; omega⟩).app u3⟩))
    refine W.bind3 (φ := fun t => 0 ≤ t.1) ?_ fun p s b hp => ?_
    · refine .ite (fun _ => (d_Once F x hl p s 6 hp).bind3 fun e p s hp => .some hp) (fun _ => .some hp)
    simp only at hp
    refine .ite (fun _ => .grd (by omega) (.some ⟨hp, by simp; omega, ho.snoc (z 10)⟩)) (fun _ => ?_)
    exact .ite (fun _ => d_snocB F x hl p s 3 1 hp (by decide) (by decide) (by decide) l _ hlt hmm ho) (fun _ => d_snocB F x hl p s 5 12 hp (by decide) (by decide) (by decide) l _ hlt hmm ho)
theorem d_Gen_R (hf : 1000 < F) : ∀ (k : Nat) (p s most deep : Int) (kid : Bool), 0 ≤ p → 1 ≤ most ∧ most ≤ 100 → 0 ≤ deep ∧ deep ≤ 100 → (most ≤ 2 ∧ deep = 0 ∧ 1 ≤ k) ∨ deep.toNat + 2 ≤ k →
    W (m_spec_l5Gen_R F k x p s most deep kid) (fun t => 0 ≤ t.2.1 ∧ t.1.length ≤ most.toNat ∧ okL t.1) := by
  intro k
  induction k with
  | zero => intro p s most deep kid h1 h2 h3 h4; omega
  | succ k ih =>
    intro p s most deep kid h1 h2 h3 h4
    rw [m_spec_l5Gen_R, m_spec_l5Gen_S]
    refine W.bind3 (φ := fun t => 0 ≤ t.2.1 ∧ t.1.length ≤ most.toNat ∧ okL t.1) ?_ fun a b c h => .some h
    refine (d_Below F x hl p s most h1).bind3 fun v p s hv => ?_
    obtain ⟨v1, v2, v3⟩ := hv
    have v4 := v3 (by omega)
    simp only at v1 v2 v4
    refine .grd (in64_of (by omega) (by omega)) (d_Gen_L F x hl _ most deep kid h2 ⟨h3.2, h3.1⟩ ⟨fun p s m kd q1 q2 q3 q4 => ?_, fun p s kd q1 q2 => ?_⟩ F p s (1 + v) [] (by omega) v1 (by omega) (by simp) (fun o ho => by cases ho))
    · exact ih p s m (deep - 1) kd q2 (by omega) (by omega) (.inr (by omega))
    · exact ih p s 2 0 kd q2 (by omega) (by omega) (.inl (by omega))
theorem d_Gen (hf : 1000 < F) (p s most deep : Int) (kid : Bool) (h1 : 0 ≤ p) (h2 : 1 ≤ most ∧ most ≤ 100) (h3 : 0 ≤ deep ∧ deep ≤ 100) : W (m_spec_l5Gen F x p s most deep kid) (fun t => 0 ≤ t.2.1 ∧ t.1.length ≤ most.toNat ∧ okL t.1) := by
  unfold m_spec_l5Gen
  exact d_Gen_R F x hl hf F p s most deep kid h1 h2 h3 (.inr (by omega))
def okK (l : List KidD) : Prop := ∀ k ∈ l, k.code.length ≤ 100 ∧ okL k.code
theorem d_Prog_L (hf : 1000 < F) (c : List I4) (hc : c.length ≤ 100) (ho : okL c) : ∀ (K : Nat) (p s n : Int) (l : List KidD), 0 < K ∧ n < (K : Int) → n ≤ 10 → 0 ≤ p → (0 ≤ n → (l.length : Int) + n ≤ 3) → l.length ≤ 3 → okK l →
    W (m_spec_l5Prog_L0 F x K p s c l n) (fun t => 0 ≤ t.2.2.1 ∧ t.1 = c ∧ t.2.1.length ≤ 3 ∧ okK t.2.1) := by
  intro K
  induction K with
  | zero => intro p s n l h1 hn h2 h3 h4 h5; omega
  | succ K ih =>
    intro p s n l h1 hn h2 h3 h4 h5
    rw [m_spec_l5Prog_L0]
    refine .ite (fun h => ?_) (fun _ => .some ⟨h2, rfl, h4, h5⟩)
    have h6 := h3 (by omega)
    refine (d_Below F x hl p s 5 h2).bind3 fun v p s hv => ?_
    obtain ⟨v1, v2, v3⟩ := hv
    have v4 := v3 (by decide)
    simp only at v1 v2 v4
    refine .grd (in64_of (by omega) (by omega)) ?_
    refine (d_Gen F x hl hf p s (2 + v) 1 true v1 (by omega) (by decide)).bind3 fun u p s hu => ?_
    obtain ⟨u1, u2, u3⟩ := hu
    simp only at u1 u2 u3
    refine .grd (by omega) (.grd (in64_of (by omega) (by omega)) (ih p s (n - 1) _ (by omega) (by omega) u1 (fun _ => by simp; omega) (by simp; omega) ?_))
    intro k hk
    rcases List.mem_append.1 hk with hk | hk
    · exact h5 k hk
    · simp at hk; subst hk; exact ⟨by show u.length ≤ 100; omega, u3⟩
theorem d_Prog (hf : 1000 < F) (p s : Int) (b : Bool) (hp : 0 ≤ p) : W (m_spec_l5Prog F x p s b) (fun t => 0 ≤ t.2.2.1 ∧ t.1.length ≤ 30 ∧ okL t.1 ∧ t.2.1.length ≤ 3 ∧ okK t.2.1) := by
  unfold m_spec_l5Prog
  refine .ite (fun _ => ?_) (fun _ => ?_)
  · refine (d_Below F x hl p s 4 hp).bind3 fun v p s hv => ?_
    obtain ⟨v1, v2, v3⟩ := hv
    have v4 := v3 (by decide)
    simp only at v1 v2 v4
    refine .grd (in64_of (by omega) (by omega)) ?_
    refine (d_Gen F x hl hf p s (1 + v) 1 false v1 (by omega) (by decide)).bind3 fun u p s hu => ?_
    obtain ⟨u1, u2, u3⟩ := hu
    simp only at u1 u2 u3
    refine (d_Below F x hl p s 4 u1).bind3 fun v' p s hv => ?_
    obtain ⟨w1, w2, w3⟩ := hv
    have w4 := w3 (by decide)
    simp only at w1 w2 w4
    refine .grd (in64_of (by omega) (by omega)) ?_
    refine (d_Gen F x hl hf p s (1 + v') 1 false w1 (by omega) (by decide)).bind3 fun u' p s hu => ?_
    obtain ⟨t1, t2, t3⟩ := hu
    simp only at t1 t2 t3
    have hlen : ((u ++ ([(⟨11, 0, 0, 0⟩ : I4)] : List I4)) ++ u').length ≤ 30 := by simp; omega
    have hok : okL ((u ++ ([(⟨11, 0, 0, 0⟩ : I4)] : List I4)) ++ u') := (u3.snoc ⟨by decide, by decide⟩).app t3
    refine .grd (by omega) (.grd (by simp; omega) (W.bind4 (φ := fun t => 0 ≤ t.2.2.1 ∧ t.1.length ≤ 30 ∧ okL t.1 ∧ t.2.1.length ≤ 3 ∧ okK t.2.1) ?_ fun a b c d h => .some h))
    refine (d_Below F x hl p s 3 t1).bind3 fun v p s hv => ?_
    obtain ⟨v1, v2, v3⟩ := hv
    have v4 := v3 (by decide)
    simp only at v1 v2 v4
    refine .grd (in64_of (by omega) (by omega)) ?_
    refine (d_Prog_L F x hl hf _ (by omega) hok F p s (1 + v) [] (by omega) (by omega) v1 (fun _ => by simp; omega) (by simp) (fun k hk => by cases hk)).mono ?_
    rintro ⟨a, b, c, d⟩ ⟨q1, q2, q3, q4⟩
    simp only at q1 q2 q3 q4
    subst q2
    exact ⟨q1, hlen, hok, q3, q4⟩
  · refine (d_Below F x hl p s 8 hp).bind3 fun v p s hv => ?_
    obtain ⟨v1, v2, v3⟩ := hv
    have v4 := v3 (by decide)
    simp only at v1 v2 v4
    refine .grd (in64_of (by omega) (by omega)) ?_
    refine (d_Gen F x hl hf p s (3 + v) 2 false v1 (by omega) (by decide)).bind3 fun u p s hu => ?_
    obtain ⟨u1, u2, u3⟩ := hu
    simp only at u1 u2 u3
    exact .some ⟨u1, by show u.length ≤ 30; omega, u3, by simp, fun k hk => by cases hk⟩
/-- Any operation. -/
theorem d_Any (p s : Int) (hp : 0 ≤ p) : W (m_spec_l4Any F x p s) (fun t => 0 ≤ t.2.2.2.2.1) := by
  unfold m_spec_l4Any
  refine (d_Below F x hl p s 16 hp).bind3 fun v p s hv => ?_
  obtain ⟨v1, v2, v3⟩ := hv
  have v4 := v3 (by decide)
  simp only at v1 v2 v4
  refine .grd (in64_of (by omega) (by omega)) ?_
  refine (d_Plain F x hl p s (1 + v) v1).bind6 fun a b c d p s hq => ?_
  have hp := hq.1
  simp only at hp
  refine W.bind6 (φ := fun t => 0 ≤ t.2.2.2.2.1) ?_ fun a b c d p s hp => .some hp
  refine (d_Below F x hl p s 16 hp).bind3 fun o p s ho => ?_
  have hp := ho.1
  simp only at hp
  refine .ite (fun _ => (d_Pick F x hl p s _ (by decide) hp).bind3 fun a p s h => .some h.1) (fun _ => ?_)
  refine .ite (fun _ => (d_Pick F x hl p s _ (by decide) hp).bind3 fun a p s h => .some h.1) (fun _ => ?_)
  refine .ite (fun _ => (d_Pick F x hl p s _ (by decide) hp).bind3 fun a p s h => .some h.1) (fun _ => ?_)
  refine .ite (fun _ => (d_Pick F x hl p s _ (by decide) hp).bind3 fun a p s h => .some h.1) (fun _ => ?_)
  exact .some hp
theorem d_Bend_L : ∀ (K : Nat) (p s : Int) (l : List I4), 0 ≤ p → l.length ≤ 100 → 0 < K ∧ 26 < l.length + K →
    W (m_spec_l5Bend_L0 F x K p s l) (fun r => match r with | .brk t => 0 ≤ t.2.1 ∧ t.1.length ≤ 100 | .ret t => 0 ≤ t.2.1 ∧ t.1.length ≤ 100) := by
  intro K
  induction K with
  | zero =>
    intro p s l hp h1 h2
    omega
  | succ K ih =>
    intro p s l hp h1 h2
    rw [m_spec_l5Bend_L0]
    refine (d_Below F x hl p s 2 hp).bind3 fun v p s hv => ?_
    obtain ⟨v1, v2, v3⟩ := hv
    have v4 := v3 (by decide)
    simp only at v1 v2 v4
    refine .grd (in64_of (by omega) (by omega)) (.ite (fun h => ?_) (fun h => .some ⟨v1, h1⟩))
    exact .grd (by omega) (ih p s _ v1 (by simp; omega) (by simp; omega))
/-- A code spoilt. -/
theorem d_Bend (hf : 1000 < F) (p s : Int) (l : List I4) (hp : 0 ≤ p) (h1 : l.length ≤ 100) (ho : okL l) : W (m_spec_l5Bend F x p s l) (fun t => 0 ≤ t.2.1 ∧ t.1.length ≤ 100) := by
  unfold m_spec_l5Bend
  rw [List.nil_append]
  refine .grd (by simp; omega) ?_
  refine .ite (fun _ => .some ⟨hp, by simp⟩) (fun h0 => ?_)
  have hpos : 0 < (l.length : Int) := by omega
  refine (d_Below F x hl p s _ hp).bind3 fun k p s hk => ?_
  obtain ⟨k1, k2, k3⟩ := hk
  have k4 := k3 hpos
  simp only at k1 k2 k4
  have hset : ∀ o : I4, (l.set k.toNat o).length ≤ 100 := fun o => by simpa using h1
  have hat := W.at (l := l) (i := k) ⟨k2, k4⟩
  refine W.lpL (φ := fun t => 0 ≤ t.2.1 ∧ t.1.length ≤ 100) ?_ fun t ht => .some ht
  refine (d_Below F x hl p s 6 k1).bind3 fun v p s hv => ?_
  have hp := hv.1
  simp only at hp
  refine .ite (fun _ => (d_Any F x hl p s hp).bind6 fun a b c d p s hp => hat.bind fun e _ => .some ⟨hp, hset _⟩) (fun _ => ?_)
  refine .ite (fun _ => hat.bind fun e _ => .some ⟨hp, hset _⟩) (fun _ => ?_)
  refine .ite (fun _ => .grd ⟨by omega, by omega⟩ (.grd (in64_of (by omega) (by omega)) (.grd (by omega) (.grd (by simp [subl]; omega) (.some ⟨hp, by simp [subl]; omega⟩))))) (fun _ => ?_)
  refine .ite (fun _ => (d_Bend_L F x hl F p s l hp h1 (by omega)).mono fun r h => by cases r <;> exact h) (fun _ => ?_)
  refine .ite (fun _ => hat.bind fun e he => ?_) (fun _ => ?_)
  · have := ho e he.1
    obtain ⟨q1, q2⟩ := this
    exact .grd (in64_of (by omega) (by omega)) (.some ⟨hp, hset _⟩)
  refine (d_Below F x hl p s 2 hp).bind3 fun v p s hv => ?_
  obtain ⟨v1, v2, v3⟩ := hv
  have v4 := v3 (by decide)
  simp only at v1 v2 v4
  exact .grd (in64_of (by omega) (by omega)) (hat.bind fun e _ => .some ⟨v1, hset _⟩)
end
/-! Texts drawn. -/
section
variable (F : Nat) (x : List UInt8) (hl : x.length ≤ 1048576)
include hl
theorem dt_Below (p s n : Int) (hp : 0 ≤ p) : W (m_spec_l1Below F x p s n) (fun t => 0 ≤ t.2.1 ∧ 0 ≤ t.1 ∧ (0 < n → t.1 < n)) := by
  obtain ⟨v, p', s', e, h1, h2, _, h⟩ := p_l1Below F x p s n hl hp
  exact ⟨(v, p', s'), e, h, h1, h2⟩
theorem dt_Byte (p s : Int) (hp : 0 ≤ p) : W (m_spec_l1Byte F x p s) (fun t => 0 ≤ t.2.1 ∧ 0 ≤ t.1 ∧ t.1 ≤ 255) := by
  obtain ⟨v, p', s', e, h1, h2, h⟩ := p_l1Byte F x p s hl hp
  exact ⟨(v, p', s'), e, h, h1, h2⟩
theorem dt_Text_L (y : Int) : ∀ (K : Nat) (p s n : Int) (l : List UInt8), 0 < K ∧ n < (K : Int) → 0 ≤ p → n ≤ 1000 → (l.length ≤ 1000 ∧ (0 ≤ n → (l.length : Int) + n ≤ 1000)) →
    W (m_spec_l1Text_L0 F x y K p s l n) (fun t => 0 ≤ t.2.1 ∧ t.1.length ≤ 1000 ∧ (0 ≤ n → (t.1.length : Int) = (l.length : Int) + n)) := by
  intro K
  induction K with
  | zero => intro p s n l h1; omega
  | succ K ih =>
    intro p s n l h1 hp hn hln
    rw [m_spec_l1Text_L0]
    refine .ite (fun h => ?_) (fun h => .some ⟨hp, by show l.length ≤ 1000; omega, fun q => by show (l.length : Int) = _; omega⟩)
    refine W.bind3 (φ := fun t => 0 ≤ t.1 ∧ t.2.2.length = l.length + 1) ?_ fun p s l' hq => ?_
    · refine (dt_Byte F x hl p s hp).bind3 fun b p s hb => ?_
      obtain ⟨b1, b2, b3⟩ := hb
      simp only at b1 b2 b3
      refine W.bind (φ := fun _ => True) ?_ fun c _ => ?_
      · refine .ite (fun _ => .grd (by decide) (.some trivial)) (fun _ => .some trivial)
      refine W.bind (φ := fun _ => True) ?_ fun d _ => ?_
      · refine .ite (fun _ => .grd (by decide) (.grd ?_ (.some trivial))) (fun _ => .some trivial)
        have h1 := Int.tmod_lt_of_pos c (show (0 : Int) < 4 by decide)
        have h2 := Int.lt_tmod_of_pos c (show (0 : Int) < 4 by decide)
        exact in64_of (by omega) (by omega)
      exact .grd (by omega) (.some ⟨b1, by simp⟩)
    · obtain ⟨q1, q2⟩ := hq
      simp only at q1 q2
      refine .grd (in64_of (by omega) (by omega)) ((ih p s (n - 1) l' (by omega) q1 (by omega) (by omega)).mono fun t ht => ⟨ht.1, ht.2.1, fun _ => by have := ht.2.2 (by omega); omega⟩)
theorem dt_Text (hf : 2000 < F) (p s m : Int) (hp : 0 ≤ p) (hm : 0 ≤ m ∧ m ≤ 900) : W (m_spec_l1Text F x p s m) (fun t => 0 ≤ t.2.1 ∧ (t.1.length : Int) ≤ m) := by
  unfold m_spec_l1Text
  refine (dt_Below F x hl p s 4 hp).bind3 fun y p s hy => ?_
  have hp := hy.1
  simp only at hp
  refine W.bind3 (φ := fun t => 0 ≤ t.2.1 ∧ (t.1.length : Int) ≤ m) (.grd (in64_of (by omega) (by omega)) ?_) fun a b c h => .some h
  refine (dt_Below F x hl p s (m + 1) hp).bind3 fun n p s hn => ?_
  obtain ⟨n1, n2, n3⟩ := hn
  have n4 := n3 (by omega)
  simp only at n1 n2 n4
  refine (dt_Text_L F x hl y F p s n [] (by omega) n1 (by omega) ⟨by simp, fun _ => by simp; omega⟩).mono fun t ht => ⟨ht.1, ?_⟩
  have := ht.2.2 n2
  simp at this
  omega
theorem dt_Spoil (hf : 2000 < F) (p s : Int) (u : Str) (hp : 0 ≤ p) (hu : u.length ≤ 16777216) : W (m_spec_l1Spoil F x p s u) (fun t => 0 ≤ t.2.1 ∧ t.1.length ≤ u.length + 3) := by
  unfold m_spec_l1Spoil
  refine .ite (fun _ => (dt_Text F x hl hf p s 3 hp (by decide)).bind3 fun a b c h => .some ⟨h.1, by have := h.2; simp only at this; show a.length ≤ _; omega⟩) (fun h0 => ?_)
  have hpos : 0 < (u.length : Int) := by omega
  refine (dt_Below F x hl p s _ hp).bind3 fun k p s hk => ?_
  obtain ⟨k1, k2, k3⟩ := hk
  have k4 := k3 hpos
  simp only at k1 k2 k4
  refine (dt_Below F x hl p s 4 k1).bind3 fun v p s hv => ?_
  have hp := hv.1
  simp only at hp
  obtain ⟨n, rfl⟩ := Int.eq_ofNat_of_zero_le k2
  have s1 : (sub u 0 (n : Int)).length = n := by simp [sub]; omega
  have s2 : (sub u ((n : Int) + 1) (u.length : Int)).length = u.length - (n + 1) := by
    rw [show (n : Int) + 1 = ((n + 1 : Nat) : Int) by omega]; simp [sub]
  have s3 : (sub u (n : Int) (u.length : Int)).length = u.length - n := by simp [sub]
  have hat := W.at (l := u) (i := (n : Int)) ⟨by omega, k4⟩
  refine .ite (fun _ => .grd (by omega) (.grd (in64_of (by omega) (by omega)) (.grd (by omega) (.grd (by rw [s1, s2]; omega) (.some ⟨hp, by show List.length (_ ++ _) ≤ _; rw [List.length_append, s1, s2]; omega⟩))))) (fun _ => ?_)
  refine .ite (fun _ => .grd (by omega) (.grd (by omega) ((dt_Byte F x hl p s hp).bind3 fun b p s hb => .grd (by rw [s1]; simp; omega) (.grd (by rw [List.length_append, s1, s3]; simp; omega) (.some ⟨hb.1, by show List.length (_ ++ _) ≤ _; rw [List.length_append, List.length_append, s1, s3]; simp; omega⟩))))) (fun _ => ?_)
  refine .ite (fun _ => .grd (by omega) (.some ⟨hp, by show List.length _ ≤ _; rw [s1]; omega⟩)) (fun _ => ?_)
  refine .grd (by omega) (hat.bind fun c _ => .grd (in64_of (by omega) (by omega)) (.grd (by omega) ?_))
  refine (dt_Below F x hl p s 255 hp).bind3 fun b p s hb => ?_
  obtain ⟨b1, b2, b3⟩ := hb
  have b4 := b3 (by decide)
  simp only at b1 b2 b4
  exact .grd (in64_of (by omega) (by omega)) (.grd (by rw [s1]; simp; omega) (.grd (by rw [List.length_append, s1, s2]; simp; omega) (.some ⟨b1, by show List.length (_ ++ _) ≤ _; rw [List.length_append, List.length_append, s1, s2]; simp; omega⟩)))
end
/-! The draws of programs, orders and things. -/
section
variable (F : Nat) (x : List UInt8) (hl : x.length ≤ 1048576)
include hl
theorem d_AnyProg (hf : 1000 < F) (p s : Int) (hp : 0 ≤ p) : W (m_spec_l5AnyProg F x p s) (fun t => 0 ≤ t.2.2.1 ∧ t.1.length ≤ 100 ∧ t.2.1.length ≤ 4 ∧ ∀ k ∈ t.2.1, k.code.length ≤ 100) := by
  unfold m_spec_l5AnyProg
  refine (d_Once F x hl p s 2 hp).bind3 fun a p s hp => ?_
  refine (d_Prog F x hl hf p s a hp).bind4 fun c k p s hc => ?_
  obtain ⟨c1, c2, c3, c4, c5⟩ := hc
  simp only at c1 c2 c3 c4 c5
  have hk : ∀ q ∈ k, q.code.length ≤ 100 := fun q hq => (c5 q hq).1
  refine W.bind4 (φ := fun t => 0 ≤ t.2.2.1 ∧ t.1.length ≤ 100 ∧ t.2.1.length ≤ 4 ∧ ∀ k ∈ t.2.1, k.code.length ≤ 100) ?_ fun a b c d h => .some h
  refine (d_Below F x hl p s 10 c1).bind3 fun v p s hv => ?_
  obtain ⟨v1, v2, v3⟩ := hv
  simp only at v1 v2 v3
  refine .ite (fun _ => (d_Bend F x hl hf p s c v1 (by omega) c3).bind3 fun a b d h => .some ⟨h.1, h.2, by show k.length ≤ 4; omega, hk⟩) (fun _ => ?_)
  refine .ite (fun _ => .ite (fun h0 => ?_) (fun _ => .some ⟨v1, by show c.length ≤ 100; omega, by show k.length ≤ 4; omega, hk⟩)) (fun _ => ?_)
  · refine (d_Below F x hl p s (k.length : Int) v1).bind3 fun i p s hi => ?_
    obtain ⟨i1, i2, i3⟩ := hi
    simp only at i1 i2 i3
    refine (W.at (l := k) (i := i) ⟨i2, i3 h0⟩).bind fun e he => ?_
    have ho := c5 e he.1
    refine (d_Bend F x hl hf p s e.code i1 ho.1 ho.2).bind3 fun a b d h => .some ⟨h.1, by show c.length ≤ 100; omega, by show (k.set i.toNat _).length ≤ 4; rw [List.length_set]; omega, fun q hq => ?_⟩
    rcases List.mem_or_eq_of_mem_set hq with hq | hq
    · exact hk q hq
    · subst hq; exact h.2
  refine .ite (fun _ => .grd (by omega) (.some ⟨v1, by show c.length ≤ 100; omega, by show (k ++ [_]).length ≤ 4; rw [List.length_append, List.length_singleton]; omega, fun q hq => ?_⟩)) (fun _ => ?_)
  · rcases List.mem_append.1 hq with hq | hq
    · exact hk q hq
    · have := List.mem_singleton.1 hq; subst this; exact Nat.zero_le _
  exact .ite (fun _ => .some ⟨v1, by show c.length ≤ 100; omega, Nat.zero_le _, fun q hq => (by cases hq)⟩) (fun _ => .some ⟨v1, by show c.length ≤ 100; omega, by show k.length ≤ 4; omega, hk⟩)
end

/-! The draws. -/
theorem show_some (F : Nat) (hf : 1000000001 < F) (c : List I4) (C : List KidD) (hc : c.length ≤ 100) (hC : C.length ≤ 4) (hK : ∀ k ∈ C, k.code.length ≤ 100) : ∃ r, m_spec_ShowProg F c C = some r ∧ m_impl_ShowProg F c C = some r ∧ r.length ≤ 3000 ∧ (progB c C = true → m_impl_ReadProg F r = some (c, C, true)) ∧ (¬ progB c C = true → r = []) := by
  have hKB : KB F C := fun k hk => by have := hK k hk; exact ⟨by omega, by omega⟩
  obtain ⟨r, e1, e2⟩ := s_ShowProg F c C (by omega) (by omega) (by omega) hKB (by omega) (by omega)
  by_cases hp : progB c C = true
  · obtain ⟨s, g1, g2, g3⟩ := prog_text F hp hf
    rw [g1] at e1
    have := Option.some.inj e1
    subst this
    exact ⟨s, e2, g1, g2, fun _ => g3, fun q => absurd hp q⟩
  · have g1 := p_ShowProgN F hp (by omega) (by omega) hKB hf
    rw [g1] at e1
    have := Option.some.inj e1
    subst this
    exact ⟨[], e2, g1, Nat.zero_le _, fun q => absurd q hp, fun _ => rfl⟩
section
variable (F : Nat) (x : List UInt8) (hl : x.length ≤ 1048576)
include hl
theorem ds_Pick (p s : Int) (l : List SE) (k : Nat) (hn : 0 < l.length) (hk : ∀ e ∈ l, e.s.length ≤ k) (hp : 0 ≤ p) : W (m_spec_l1Pick F x p s l) (fun t => 0 ≤ t.2.1 ∧ t.1.length ≤ k) := by
  unfold m_spec_l1Pick
  refine (d_Below F x hl p s (l.length : Int) hp).bind3 fun v p s hv => ?_
  obtain ⟨v1, v2, v3⟩ := hv
  simp only at v1 v2 v3
  exact (W.at (l := l) (i := v) ⟨v2, v3 (by omega)⟩).bind fun e he => .some ⟨v1, hk e he.1⟩
theorem ds_ShowProg (hx : x.length < F) (hf : 1000 < F) : W (m_spec_DrawShowProg F x) (fun t => t.1.length ≤ 100 ∧ t.2.length ≤ 4 ∧ ∀ k ∈ t.2, k.code.length ≤ 100) := by
  unfold m_spec_DrawShowProg
  obtain ⟨s, e⟩ := p_l1New F x hl hx
  rw [e]
  refine W.bind2 (φ := fun t => t = (0, s)) ⟨_, rfl, rfl⟩ fun a b h => ?_
  obtain ⟨rfl, rfl⟩ := Prod.mk.inj h
  exact (d_AnyProg F x hl hf 0 _ (by omega)).bind4 fun c k p s h => .some h.2
theorem ds_ReadProg (hx : x.length < F) (hf : 1000000001 < F) : W (m_spec_DrawReadProg F x) (fun t => t.length ≤ 10000) := by
  unfold m_spec_DrawReadProg
  obtain ⟨s, e⟩ := p_l1New F x hl hx
  rw [e]
  refine W.bind2 (φ := fun t => t = (0, s)) ⟨_, rfl, rfl⟩ fun a b h => ?_
  obtain ⟨rfl, rfl⟩ := Prod.mk.inj h
  refine (d_Once F x hl 0 _ 2 (by omega)).bind3 fun b p s hp => ?_
  refine (d_Prog F x hl (by omega) p s b hp).bind4 fun c k p s hc => ?_
  obtain ⟨c1, c2, c3, c4, c5⟩ := hc
  simp only at c1 c2 c3 c4 c5
  obtain ⟨r, e1, _, e3, _⟩ := show_some F hf c k (by omega) (by omega) (fun q hq => (c5 q hq).1)
  rw [e1, Option.bind_some]
  refine (d_Below F x hl p s 7 c1).bind3 fun v p s hv => ?_
  refine .ite (fun _ => (dt_Spoil F x hl (by omega) p s r hv.1 (by omega)).bind3 fun a b c h => .some (by have := h.2; simp only at this; omega)) (fun _ => ?_)
  refine .ite (fun _ => (ds_Pick F x hl p s _ 20 (by decide) (by decide) hv.1).bind3 fun a b c h => ?_) (fun _ => .some (by omega))
  have := h.2
  simp only at this
  exact .grd (by omega) (.some (by rw [List.length_append]; omega))
theorem ds_ReadOp (hx : x.length < F) (hf : 1000000001 < F) : W (m_spec_DrawReadOp F x) (fun t => t.length ≤ 300000) := by
  unfold m_spec_DrawReadOp
  obtain ⟨s, e⟩ := p_l1New F x hl hx
  rw [e]
  refine W.bind2 (φ := fun t => t = (0, s)) ⟨_, rfl, rfl⟩ fun a b h => ?_
  obtain ⟨rfl, rfl⟩ := Prod.mk.inj h
  refine (d_Below F x hl 0 _ 16 (by omega)).bind3 fun v p s hv => ?_
  obtain ⟨v1, v2, v3⟩ := hv
  simp only at v1 v2 v3
  have := v3 (by decide)
  refine .grd (in64_of (by omega) (by omega)) ((d_Plain F x hl p s _ v1).bind6 fun a b c d p s h => ?_)
  obtain ⟨h1, _⟩ := h
  simp only at h1
  obtain ⟨r, _, e2, e3, _⟩ := s_ShowOpX F a b c d (by omega)
  rw [e2, Option.bind_some]
  refine (d_Below F x hl p s 6 h1).bind3 fun v p s hv => ?_
  refine .ite (fun _ => (dt_Spoil F x hl (by omega) p s r hv.1 (by omega)).bind3 fun a b c h => .some (by have := h.2; simp only at this; omega)) (fun _ => ?_)
  refine .ite (fun _ => (ds_Pick F x hl p s _ 20 (by decide) (by decide) hv.1).bind3 fun a b c h => .some (by have := h.2; simp only at this; omega)) (fun _ => .some (by omega))
end

/-! The law. -/
theorem src_first (F : Nat) (c : List I4) (C : List KidD) (hf : 1000000001 < F) (hc : c.length ≤ 100) (hC : C.length ≤ 4) (hK : ∀ k ∈ C, k.code.length ≤ 100) (r : Str) (h1 : progB c C = true → m_impl_ReadProg F r = some (c, C, true)) (h2 : ¬ progB c C = true → r = []) :
    ((m_spec_ProgOk F c C).bind fun y5 =>
    if y5 = true then
      bind3 (m_impl_ReadProg F r) fun y6 y7 y8 =>
      (
        if y8 = true then
          (m_spec_SameProg F c C y6 y7).bind fun y9 =>
          some !(y9)
        else
        some true).bind fun z1 =>
      if z1 = true then
        some (Lp.ret false)
      else
      some (Lp.brk ())
    else
    if r = [] then
      some (Lp.brk ())
    else
    some (Lp.ret false)) = some (Lp.brk ()) := by
  have hKB : KB F C := fun k hk => by have := hK k hk; exact ⟨by omega, by omega⟩
  rw [p_SProgOk F c C (by omega) (by omega) (by omega) hKB (by omega), Option.bind_some]
  by_cases hp : progB c C = true
  · rw [if_pos hp, h1 hp]
    have hs := p_SSameProg F c C c C (by omega) (by omega) (by omega) hKB (by omega)
    show ((if true = true then ((m_spec_SameProg F c C c C).bind fun y9 => some !(y9)) else some true).bind fun z1 => if z1 = true then some (Lp.ret false) else some (Lp.brk ())) = _
    rw [if_pos rfl, hs, decide_eq_true rfl, decide_eq_true rfl]; rfl
  · rw [if_neg hp, if_pos (h2 hp)]
theorem pure_FnSource {x : List UInt8} (hx : x.length ≤ maxLen) : ∃ fuel, m_laws_FnSource fuel x = some true := by
  refine ⟨1000000010, ?_⟩
  generalize hF : (1000000010 : Nat) = F
  unfold m_laws_FnSource m_laws_big
  rw [Option.bind_some]
  by_cases hs : (1048576 : Int) < (x.length : Int)
  · rw [decide_eq_true hs, if_pos rfl]
  rw [decide_eq_false hs, if_neg (by decide)]
  have hl : x.length ≤ 1048576 := by omega
  obtain ⟨⟨c, C⟩, e, k1, k2, k3⟩ := ds_ShowProg F x hl (by omega) (by omega)
  simp only at k1 k2 k3
  obtain ⟨r, _, r2, _, r4, r5⟩ := show_some F (by omega) c C k1 k2 k3
  obtain ⟨t, e2, t2⟩ := ds_ReadProg F x hl (by omega) (by omega)
  obtain ⟨u, e3, u2⟩ := ds_ReadOp F x hl (by omega) (by omega)
  have hfirst := src_first F c C (by omega) k1 k2 k3 r r4 r5
  obtain ⟨a', b', c', d', g, o1, _, o3, _⟩ := s_ReadOp F u (by omega) (by omega)
  have hop : (if g = true then ((m_impl_ShowOp F a' b' c' d').bind fun y24 => (some u).bind fun y25 => some (decide (y24 = y25))) else some true) = some true := by
    cases g with
    | false => rfl
    | true => rw [if_pos rfl, (o3 rfl).2, Option.bind_some, Option.bind_some, decide_eq_true rfl]
  rw [e, bb2, r2, Option.bind_some, hfirst, bL1, e2, Option.bind_some]
  rcases s_ReadProg F t (by omega) (by omega) with ⟨c2, C2, ls, p, ps, g1, g2, _⟩ | ⟨g1, g2⟩
  · have hb := prog_back F (by omega) (by omega) g1
    rw [g1, g2]
    show ((m_spec_DrawReadOp F x).bind fun y17 => bind5 (m_impl_ReadOp F y17) fun y18 y19 y20 y21 y22 => _) = _
    rw [e3, Option.bind_some, o1, bB5]
    show ((m_impl_ShowProg F c2 C2).bind fun y23 => if y23 = t then (if g = true then ((m_impl_ShowOp F a' b' c' d').bind fun y24 => (some u).bind fun y25 => some (decide (y24 = y25))) else some true) else some false).bind (fun z2 => some z2) = _
    rw [hb, Option.bind_some, if_pos rfl, hop]; rfl
  · rw [g1, g2]
    show ((m_spec_DrawReadOp F x).bind fun y17 => bind5 (m_impl_ReadOp F y17) fun y18 y19 y20 y21 y22 => _) = _
    rw [e3, Option.bind_some, o1, bB5]
    show (if g = true then ((m_impl_ShowOp F a' b' c' d').bind fun y24 => (some u).bind fun y25 => some (decide (y24 = y25))) else some true).bind (fun z2 => some z2) = _
    rw [hop]; rfl
end Go.Proofs.Ytpbfppelmgjfpaa
