/- FnSerial: draws, and the law. -/
import Derived.Test.YtknghnmcckjjbaaPAll
import Derived.Laws.BitsLemmas
namespace Go.Proofs.Ytknghnmcckjjbaa
open Go Go.RowKit
set_option linter.unusedVariables false
set_option linter.unusedSimpArgs false

theorem and_b (x : Int) (M : Nat) (hM : M < 4611686018427387904) : 0 ≤ bits .and .i64 x (M : Int) ∧ bits .and .i64 x (M : Int) ≤ (M : Int) := by
  have h := Nat.and_le_right (n := (BitVec.ofInt 64 x).toNat) (m := M % 2 ^ 64)
  have e : bits .and .i64 x (M : Int) = IntKind.i64.wrap (((BitVec.ofInt 64 x).toNat &&& (M % 2 ^ 64) : Nat) : Int) := by
    show IntKind.i64.wrap (((BitVec.ofInt 64 x &&& BitVec.ofInt 64 (M : Int)).toNat : Nat) : Int) = _
    rw [BitVec.toNat_and, BitVec.ofInt_natCast, BitVec.toNat_ofNat]
  rw [e, IntKind.wrap_i64]
  have : M % 2 ^ 64 = M := Nat.mod_eq_of_lt (by omega)
  rw [this] at h ⊢
  omega
theorem p_l1New_L (fuel : Nat) (x : List UInt8) (hl : x.length ≤ 1048576) : ∀ K n (s : Int), 0 ≤ s ∧ s ≤ 4611686018427 → n ≤ x.length → x.length < n + K →
    ∃ s', m_spec_l1New_L0 fuel x K s (n : Int) = some s' := by
  intro K
  induction K with
  | zero => intro n s hs h1 h2; omega
  | succ K ih =>
    intro n s hs h1 h2
    rw [m_spec_l1New_L0]
    by_cases h : n < x.length
    · by_cases h4 : (n : Int) < 4000
      · have hb : ((x[n].toNat : Nat) : Int) < 256 := by have := x[n].toNat_lt; omega
        have i1 : in64 (s * 131) := in64_of (by omega) (by omega)
        have i2 : in64 (s * 131 + (x[n].toNat : Int)) := in64_of (by omega) (by omega)
        have i3 : in64 (s * 131 + (x[n].toNat : Int) + 7) := in64_of (by omega) (by omega)
        simp only [if_pos (lt_cast h), if_pos h4, at?_lt h, Option.bind_some, if_pos i1, if_pos i2, if_pos i3, if_pos (in64_succ h (show x.length ≤ _ by omega))]
        have := and_b (s * 131 + (x[n].toNat : Int) + 7) 1073741823 (by omega)
        exact ih (n + 1) _ ⟨this.1, Int.le_trans this.2 (by omega)⟩ (by omega) (by omega)
      · simp only [if_pos (lt_cast h), if_neg h4]; exact ⟨_, rfl⟩
    · simp only [if_neg (ge_cast h)]; exact ⟨_, rfl⟩
theorem p_l1New (fuel : Nat) (x : List UInt8) (hl : x.length ≤ 1048576) (hf : x.length < fuel) : ∃ s, m_spec_l1New fuel x = some (0, s) := by
  unfold m_spec_l1New
  rw [if_pos (in64_of (by omega) (by omega))]
  obtain ⟨s, h⟩ := p_l1New_L fuel x hl fuel 0 (10101 + (x.length : Int)) (by omega) (by omega) (by omega)
  exact ⟨s, by erw [h]; rfl⟩
theorem p_l1Byte (fuel : Nat) (x : List UInt8) (p s : Int) (hl : x.length ≤ 1048576) (hp : 0 ≤ p) : ∃ b p' s', m_spec_l1Byte fuel x p s = some (b, p', s') ∧ 0 ≤ b ∧ b ≤ 255 ∧ 0 ≤ p' := by
  unfold m_spec_l1Byte
  by_cases h : p < (x.length : Int)
  · obtain ⟨v, hv⟩ := at?_some_iff (l := x) (i := p) ⟨hp, h⟩
    simp only [if_pos h, hv, Option.bind_some, bind3]
    refine ⟨_, _, _, rfl, (and_b _ 255 (by omega)).1, (and_b _ 255 (by omega)).2, ?_⟩
    rw [IntKind.wrap_i64]; omega
  · simp only [if_neg h, Option.bind_some, bind3]
    exact ⟨_, _, _, rfl, (and_b _ 255 (by omega)).1, (and_b _ 255 (by omega)).2, hp⟩
theorem p_l1Below (fuel : Nat) (x : List UInt8) (p s n : Int) (hl : x.length ≤ 1048576) (hp : 0 ≤ p) : ∃ v p' s', m_spec_l1Below fuel x p s n = some (v, p', s') ∧ 0 ≤ v ∧ (0 < n → v < n) ∧ (n ≤ 0 → v = 0) ∧ 0 ≤ p' := by
  unfold m_spec_l1Below
  by_cases h0 : n ≤ 0
  · rw [if_pos h0]; exact ⟨_, _, _, rfl, Int.le_refl _, fun q => by omega, fun _ => rfl, hp⟩
  · rw [if_neg h0]
    have hn : (n : Int) ≠ 0 := by omega
    by_cases h1 : n ≤ 256
    · rw [if_pos h1]
      obtain ⟨b, p1, s1, e1, b1, b2, b3⟩ := p_l1Byte fuel x p s hl hp
      simp only [e1, bind3, Option.bind_some, if_pos hn]
      exact ⟨_, _, _, rfl, by rw [Int.tmod_eq_emod_of_nonneg b1]; exact Int.emod_nonneg _ hn, fun _ => by rw [Int.tmod_eq_emod_of_nonneg b1]; exact Int.emod_lt_of_pos _ (by omega), fun q => by omega, b3⟩
    · rw [if_neg h1]
      obtain ⟨b, p1, s1, e1, b1, b2, b3⟩ := p_l1Byte fuel x p s hl hp
      obtain ⟨c, p2, s2, e2, c1, c2, c3⟩ := p_l1Byte fuel x p1 s1 hl b3
      obtain ⟨d, p3, s3, e3, d1, d2, d3⟩ := p_l1Byte fuel x p2 s2 hl c3
      obtain ⟨e, p4, s4, e4, f1, f2, f3⟩ := p_l1Byte fuel x p3 s3 hl d3
      have i1 : in64 (b * 16777216) := in64_of (by omega) (by omega)
      have i2 : in64 (c * 65536) := in64_of (by omega) (by omega)
      have i3 : in64 (b * 16777216 + c * 65536) := in64_of (by omega) (by omega)
      have i4 : in64 (d * 256) := in64_of (by omega) (by omega)
      have i5 : in64 (b * 16777216 + c * 65536 + d * 256) := in64_of (by omega) (by omega)
      have i6 : in64 (b * 16777216 + c * 65536 + d * 256 + e) := in64_of (by omega) (by omega)
      simp only [e1, e2, e3, e4, bind3, Option.bind_some, if_pos i1, if_pos i2, if_pos i3, if_pos i4, if_pos i5, if_pos i6, if_pos hn]
      have hz : 0 ≤ b * 16777216 + c * 65536 + d * 256 + e := by omega
      exact ⟨_, _, _, rfl, by rw [Int.tmod_eq_emod_of_nonneg hz]; exact Int.emod_nonneg _ hn, fun _ => by rw [Int.tmod_eq_emod_of_nonneg hz]; exact Int.emod_lt_of_pos _ (by omega), fun q => by omega, f3⟩
theorem p_l1Once (fuel : Nat) (x : List UInt8) (p s n : Int) (hl : x.length ≤ 1048576) (hp : 0 ≤ p) : ∃ v p' s', m_spec_l1Once fuel x p s n = some (v, p', s') ∧ 0 ≤ p' := by
  obtain ⟨v, p', s', e, h1, h2, h3, h4⟩ := p_l1Below fuel x p s n hl hp
  exact ⟨decide (v = 0), p', s', by simp only [m_spec_l1Once, e, bind3, Option.bind_some], h4⟩
theorem p_l1PickInt (fuel : Nat) (x : List UInt8) (p s : Int) (l : List Int) (hl : x.length ≤ 1048576) (hp : 0 ≤ p) (hn : 0 < l.length) : ∃ v p' s', m_spec_l1PickInt fuel x p s l = some (v, p', s') ∧ v ∈ l ∧ 0 ≤ p' := by
  obtain ⟨v, p', s', e, h1, h2, h3, h4⟩ := p_l1Below fuel x p s (l.length : Int) hl hp
  obtain ⟨u, hu⟩ := at?_some_iff (l := l) (i := v) ⟨h1, h2 (by omega)⟩
  exact ⟨u, p', s', by simp only [m_spec_l1PickInt, e, bind3, Option.bind_some, hu], List.mem_of_getElem? (at?_some hu).2, h4⟩

/-! What a model yields, if it yields. -/
def W {α : Type} (o : Option α) (φ : α → Prop) : Prop := ∃ a, o = some a ∧ φ a
theorem W.some {α : Type} {a : α} {φ : α → Prop} (h : φ a) : W (some a) φ := ⟨a, rfl, h⟩
theorem W.mono {α : Type} {o : Option α} {φ ψ : α → Prop} (h : W o φ) (k : ∀ a, φ a → ψ a) : W o ψ := let ⟨a, e, h⟩ := h; ⟨a, e, k a h⟩
theorem W.bind {α β : Type} {o : Option α} {f : α → Option β} {φ : α → Prop} {ψ : β → Prop} (h : W o φ) (k : ∀ a, φ a → W (f a) ψ) : W (o.bind f) ψ := by
  obtain ⟨a, e, h⟩ := h; rw [e]; exact k a h
theorem W.bind2 {α β γ : Type} {o : Option (α × β)} {f : α → β → Option γ} {φ : α × β → Prop} {ψ : γ → Prop} (h : W o φ) (k : ∀ a b, φ (a, b) → W (f a b) ψ) : W (bind2 o f) ψ := by
  obtain ⟨⟨a, b⟩, e, h⟩ := h; rw [e]; exact k a b h
theorem W.bind3 {α β γ δ : Type} {o : Option (α × β × γ)} {f : α → β → γ → Option δ} {φ : α × β × γ → Prop} {ψ : δ → Prop} (h : W o φ) (k : ∀ a b c, φ (a, b, c) → W (f a b c) ψ) : W (bind3 o f) ψ := by
  obtain ⟨⟨a, b, c⟩, e, h⟩ := h; rw [e]; exact k a b c h
theorem W.bind4 {α β γ δ ε : Type} {o : Option (α × β × γ × δ)} {f : α → β → γ → δ → Option ε} {φ : α × β × γ × δ → Prop} {ψ : ε → Prop} (h : W o φ) (k : ∀ a b c d, φ (a, b, c, d) → W (f a b c d) ψ) : W (bind4 o f) ψ := by
  obtain ⟨⟨a, b, c, d⟩, e, h⟩ := h; rw [e]; exact k a b c d h
theorem W.bind5 {α β γ δ ε ζ : Type} {o : Option (α × β × γ × δ × ε)} {f : α → β → γ → δ → ε → Option ζ} {φ : α × β × γ × δ × ε → Prop} {ψ : ζ → Prop} (h : W o φ) (k : ∀ a b c d e, φ (a, b, c, d, e) → W (f a b c d e) ψ) : W (bind5 o f) ψ := by
  obtain ⟨⟨a, b, c, d, e⟩, q, h⟩ := h; rw [q]; exact k a b c d e h
theorem W.bind6 {α β γ δ ε ζ η : Type} {o : Option (α × β × γ × δ × ε × ζ)} {f : α → β → γ → δ → ε → ζ → Option η} {φ : α × β × γ × δ × ε × ζ → Prop} {ψ : η → Prop} (h : W o φ) (k : ∀ a b c d e g, φ (a, b, c, d, e, g) → W (f a b c d e g) ψ) : W (bind6 o f) ψ := by
  obtain ⟨⟨a, b, c, d, e, g⟩, q, h⟩ := h; rw [q]; exact k a b c d e g h
theorem W.ite {α : Type} {p : Prop} [Decidable p] {a b : Option α} {φ : α → Prop} (h : p → W a φ) (k : ¬ p → W b φ) : W (if p then a else b) φ := by
  by_cases q : p
  · rw [if_pos q]; exact h q
  · rw [if_neg q]; exact k q
theorem W.grd {α : Type} {p : Prop} [Decidable p] {a : Option α} {φ : α → Prop} (q : p) (h : W a φ) : W (if p then a else none) φ := by rw [if_pos q]; exact h
theorem W.at {E : Type} {l : List E} {i : Int} (h : 0 ≤ i ∧ i < (l.length : Int)) : W (at? l i) (fun e => e ∈ l ∧ at? l i = .some e) := by
  obtain ⟨e, he⟩ := at?_some_iff h
  exact ⟨e, he, List.mem_of_getElem? (at?_some he).2, he⟩
/-- A loop's way on, or its way out. -/
theorem W.lpL {α β : Type} {o : Option (Lp α β)} {f : α → Option β} {φ : α → Prop} {ψ : β → Prop} (h : W o (fun r => match r with | .brk a => φ a | .ret b => ψ b)) (k : ∀ a, φ a → W (f a) ψ) : W (o.bind (contL f)) ψ := by
  obtain ⟨r, e, h⟩ := h
  rw [e]
  cases r with
  | brk a => exact k a h
  | ret b => exact ⟨b, rfl, h⟩

/-! The draws of code. -/
def small (v : Int) : Prop := -1 ≤ v ∧ v ≤ 70000
def okO (o : I4) : Prop := small o.c
def okL (l : List I4) : Prop := ∀ o ∈ l, okO o
theorem okL.snoc {l : List I4} (h : okL l) {o : I4} (ho : okO o) : okL (l ++ [o]) := fun q hq => by
  rcases List.mem_append.1 hq with hq | hq
  · exact h q hq
  · simp at hq; subst hq; exact ho
theorem okL.app {l m : List I4} (h : okL l) (k : okL m) : okL (l ++ m) := fun q hq => (List.mem_append.1 hq).elim (h q) (k q)
theorem okL.set {l : List I4} (h : okL l) {o : I4} (ho : okO o) (i : Nat) : okL (l.set i o) := fun q hq => by
  rcases List.mem_or_eq_of_mem_set hq with hq | hq
  · exact h q hq
  · subst hq; exact ho
section
variable (F : Nat) (x : List UInt8) (hl : x.length ≤ 1048576)
include hl
theorem d_Below (p s n : Int) (hp : 0 ≤ p) : W (m_spec_l1Below F x p s n) (fun t => 0 ≤ t.2.1 ∧ 0 ≤ t.1 ∧ (0 < n → t.1 < n)) := by
  obtain ⟨v, p', s', e, h1, h2, _, h⟩ := p_l1Below F x p s n hl hp
  exact ⟨(v, p', s'), e, h, h1, h2⟩
theorem d_Once (p s n : Int) (hp : 0 ≤ p) : W (m_spec_l1Once F x p s n) (fun t => 0 ≤ t.2.1) := by
  obtain ⟨v, p', s', e, h⟩ := p_l1Once F x p s n hl hp
  exact ⟨(v, p', s'), e, h⟩
theorem d_Pick (p s : Int) (l : List Int) (hn : 0 < l.length) (hp : 0 ≤ p) : W (m_spec_l1PickInt F x p s l) (fun t => 0 ≤ t.2.1 ∧ t.1 ∈ l) := by
  obtain ⟨v, p', s', e, h1, h⟩ := p_l1PickInt F x p s l hl hp hn
  exact ⟨(v, p', s'), e, h, h1⟩
theorem d_Draw3 (p s : Int) (hp : 0 ≤ p) : W (m_spec_l3Draw F x p s) (fun t => 0 ≤ t.2.1 ∧ 0 ≤ t.1 ∧ t.1 ≤ 65535) := by
  unfold m_spec_l3Draw
  refine (d_Once F x hl p s 6 hp).bind3 fun a p s hp => ?_
  refine .ite (fun _ => ?_) (fun _ => ?_)
  · refine (d_Pick F x hl p s [0, 65535, 65534, 256] (by decide) hp).bind3 fun a p s hp => .some ?_
    obtain ⟨h1, h2⟩ := hp
    simp only [List.mem_cons, List.not_mem_nil, or_false] at h2
    exact ⟨h1, by rcases h2 with h | h | h | h <;> simp only [h] <;> decide, by rcases h2 with h | h | h | h <;> simp only [h] <;> decide⟩
  · refine (d_Below F x hl p s 9 hp).bind3 fun a p s hp => .some ?_
    obtain ⟨h1, h2, h3⟩ := hp
    have := h3 (by decide)
    simp only at h2 this
    exact ⟨h1, h2, by show a ≤ 65535; omega⟩
theorem d_Reg (p s : Int) (hp : 0 ≤ p) : W (m_spec_l4DrawReg F x p s) (fun t => 0 ≤ t.2.1 ∧ small t.1) := by
  unfold m_spec_l4DrawReg
  refine (d_Below F x hl p s 4 hp).bind3 fun a p s hp => .some ⟨hp.1, ?_⟩
  obtain ⟨h1, h2, h3⟩ := hp
  have := h3 (by decide)
  simp only at h2 this
  exact ⟨by show -1 ≤ a; omega, by show a ≤ 70000; omega⟩
theorem d_Cell (p s : Int) (hp : 0 ≤ p) : W (m_spec_l4DrawCell F x p s) (fun t => 0 ≤ t.2.1 ∧ small t.1) := by
  unfold m_spec_l4DrawCell
  refine (d_Once F x hl p s 8 hp).bind3 fun a p s hp => ?_
  have key : ∀ n : Int, 0 < n → n ≤ 70000 → W (bind3 (m_spec_l1Below F x p s n) fun a b c => some (a, b, c)) (fun t => 0 ≤ t.2.1 ∧ small t.1) := fun n h0 hn => by
    refine (d_Below F x hl p s n hp).bind3 fun a p s hp => .some ⟨hp.1, ?_⟩
    obtain ⟨h1, h2, h3⟩ := hp
    have := h3 h0
    simp only at h2 this
    exact ⟨by show -1 ≤ a; omega, by show a ≤ 70000; omega⟩
  exact .ite (fun _ => key 8 (by decide) (by decide)) (fun _ => key 3 (by decide) (by decide))
theorem d_Key (p s : Int) (hp : 0 ≤ p) : W (m_spec_l4DrawKey F x p s) (fun t => 0 ≤ t.2.1 ∧ small t.1) := by
  unfold m_spec_l4DrawKey
  refine (d_Once F x hl p s 4 hp).bind3 fun a p s hp => ?_
  refine .ite (fun _ => ?_) (fun _ => ?_)
  · refine (d_Below F x hl p s 8 hp).bind3 fun a p s hp => .some ⟨hp.1, ?_⟩
    obtain ⟨h1, h2, h3⟩ := hp
    have := h3 (by decide)
    simp only at h2 this
    exact ⟨by show -1 ≤ a; omega, by show a ≤ 70000; omega⟩
  · refine (d_Pick F x hl p s _ (by decide) hp).bind3 fun a p s hp => .some ⟨hp.1, ?_⟩
    have h2 := hp.2
    simp only [List.mem_cons, List.not_mem_nil, or_false] at h2
    rcases h2 with h | h | h <;> simp only [h, small] <;> omega
/-- A right operation of a kind, or none. -/
theorem d_Plain (p s o : Int) (hp : 0 ≤ p) : W (m_spec_l4Plain F x p s o) (fun t => 0 ≤ t.2.2.2.2.1 ∧ small t.2.2.1) := by
  unfold m_spec_l4Plain
  refine W.bind5 (φ := fun t => 0 ≤ t.2.2.2.1 ∧ small t.2.1) ?_ fun a b c p s hp => .some hp
  have z : small 0 := ⟨by decide, by decide⟩
  refine .ite (fun _ => (d_Reg F x hl p s hp).bind3 fun a p s hp => (d_Draw3 F x hl p s hp.1).bind3 fun b p s hp => .some ⟨hp.1, by have h2 : 0 ≤ b := hp.2.1; have h3 : b ≤ 65535 := hp.2.2; exact ⟨by show -1 ≤ b; omega, by show b ≤ 70000; omega⟩⟩) (fun _ => ?_)
  refine W.bind (φ := fun _ => True) (by split <;> (try split) <;> exact ⟨_, rfl, trivial⟩) fun b _ => ?_
  refine .ite (fun _ => (d_Reg F x hl p s hp).bind3 fun a p s hp => (d_Reg F x hl p s hp.1).bind3 fun b p s hb => (d_Reg F x hl p s hb.1).bind3 fun c p s hp => .some ⟨hp.1, hb.2⟩) (fun _ => ?_)
  refine .ite (fun _ => (d_Reg F x hl p s hp).bind3 fun a p s hp => (d_Cell F x hl p s hp.1).bind3 fun b p s hb => .some hb) (fun _ => ?_)
  refine .ite (fun _ => (d_Cell F x hl p s hp).bind3 fun a p s hp => (d_Reg F x hl p s hp.1).bind3 fun b p s hb => .some hb) (fun _ => ?_)
  refine .ite (fun _ => (d_Reg F x hl p s hp).bind3 fun a p s hp => (d_Below F x hl p s 3 hp.1).bind3 fun b p s hb => ?_) (fun _ => ?_)
  · obtain ⟨h1, h2, h3⟩ := hb
    have h4 := h3 (by decide)
    simp only at h2 h4
    exact .grd (in64_of (by omega) (by omega)) (.some ⟨h1, by show -1 ≤ 1 + b; omega, by show 1 + b ≤ 70000; omega⟩)
  refine W.bind (φ := fun _ => True) (by split <;> (try split) <;> exact ⟨_, rfl, trivial⟩) fun b _ => ?_
  refine .ite (fun _ => (d_Reg F x hl p s hp).bind3 fun a p s hp => .some ⟨hp.1, z⟩) (fun _ => ?_)
  refine .ite (fun _ => (d_Key F x hl p s hp).bind3 fun a p s hp => (d_Reg F x hl p s hp.1).bind3 fun b p s hb => (d_Reg F x hl p s hb.1).bind3 fun c p s hp => .some ⟨hp.1, hb.2⟩) (fun _ => ?_)
  refine .ite (fun _ => (d_Reg F x hl p s hp).bind3 fun a p s hp => (d_Key F x hl p s hp.1).bind3 fun b p s hb => .some hb) (fun _ => ?_)
  refine .ite (fun _ => (d_Key F x hl p s hp).bind3 fun a p s hp => (d_Reg F x hl p s hp.1).bind3 fun b p s hb => .some hb) (fun _ => ?_)
  exact .some ⟨hp, z⟩
/-- One more operation. -/
theorem d_snoc (p s o : Int) (hp : 0 ≤ p) (l : List I4) (n : Nat) (hn : l.length < n) (hn2 : n ≤ 1000) (ho : okL l) : W (bind6 (m_spec_l4Plain F x p s o) fun a b c d p s => if l.length + 1 ≤ 17179869184 then some (p, s, l ++ ([(⟨a, b, c, d⟩ : I4)] : List I4)) else none) (fun t => 0 ≤ t.1 ∧ t.2.2.length ≤ n ∧ okL t.2.2) := by
  refine (d_Plain F x hl p s o hp).bind6 fun a b c d p s hp => .grd (by omega) (.some ⟨hp.1, by simp; omega, ho.snoc hp.2⟩)
theorem d_snocB (p s n0 b0 : Int) (hp : 0 ≤ p) (h0 : 0 < n0) (h1 : n0 ≤ 100) (hb : 0 ≤ b0 ∧ b0 ≤ 100) (l : List I4) (n : Nat) (hn : l.length < n) (hn2 : n ≤ 1000) (ho : okL l) :
    W (bind3 (m_spec_l1Below F x p s n0) fun v p s => if in64 (b0 + v) then bind6 (m_spec_l4Plain F x p s (b0 + v)) fun a b c d p s => if l.length + 1 ≤ 17179869184 then some (p, s, l ++ ([(⟨a, b, c, d⟩ : I4)] : List I4)) else none else none) (fun t => 0 ≤ t.1 ∧ t.2.2.length ≤ n ∧ okL t.2.2) := by
  refine (d_Below F x hl p s n0 hp).bind3 fun v p s hv => ?_
  obtain ⟨h2, h3, h4⟩ := hv
  have h5 := h4 h0
  simp only at h2 h3 h5
  exact .grd (in64_of (by omega) (by omega)) (d_snoc F x hl p s _ h2 l n hn hn2 ho)
/-- What is asked of the draws one level below. -/
def RecOk (rcf : (List UInt8) → Int → Int → Int → Int → Bool → Option (List I4 × Int × Int)) (x : List UInt8) (most deep : Int) : Prop :=
  (∀ p s m k, 0 < deep → 0 ≤ p → 1 ≤ m → m + 3 ≤ most → W (rcf x p s m (deep - 1) k) (fun t => 0 ≤ t.2.1 ∧ t.1.length ≤ m.toNat ∧ okL t.1)) ∧
  (∀ p s k, 3 ≤ most → 0 ≤ p → W (rcf x p s 2 0 k) (fun t => 0 ≤ t.2.1 ∧ t.1.length ≤ 2 ∧ okL t.1))
theorem d_Gen_L (rcf : (List UInt8) → Int → Int → Int → Int → Bool → Option (List I4 × Int × Int)) (most deep : Int) (kid : Bool) (hm : 1 ≤ most ∧ most ≤ 100) (hd : deep ≤ 100 ∧ 0 ≤ deep) (hr : RecOk rcf x most deep) :
    ∀ (K : Nat) (p s n : Int) (l : List I4), 0 < K ∧ n < (K : Int) → 0 ≤ p → n ≤ 1000 → l.length ≤ most.toNat → okL l →
    W (m_spec_l5Gen_L0 F x most deep kid rcf K p s l n) (fun t => 0 ≤ t.2.1 ∧ t.1.length ≤ most.toNat ∧ okL t.1) := by
  intro K
  induction K with
  | zero => intro p s n l h1 hp hn hl2 ho; omega
  | succ K ih =>
    intro p s n l h1 hp hn hl2 ho
    rw [m_spec_l5Gen_L0]
    refine W.bind (φ := fun b => b = true → 0 < n ∧ (l.length : Int) < most) ?_ fun b hb => ?_
    · refine .ite (fun h => .some fun q => ⟨h, by simpa using q⟩) (fun h => .some fun q => by cases q)
    refine .ite (fun h => ?_) (fun _ => .some ⟨hp, hl2, ho⟩)
    obtain ⟨h2, h3⟩ := hb h
    have hlt : l.length < most.toNat := by omega
    have hmm : most.toNat ≤ 1000 := by omega
    have z : ∀ k : Int, okO ⟨k, 0, 0, 0⟩ := fun k => ⟨(by decide : (-1 : Int) ≤ 0), (by decide : (0 : Int) ≤ 70000)⟩
    refine W.bind3 (φ := fun t => 0 ≤ t.1 ∧ t.2.2.length ≤ most.toNat ∧ okL t.2.2) ?_ fun p s l' hq => .grd (in64_of (by omega) (by omega)) (ih p s (n - 1) l' (by omega) hq.1 (by omega) hq.2.1 hq.2.2)
    refine (d_Below F x hl p s 20 hp).bind3 fun v p s hv => ?_
    have hp := hv.1
    simp only at hp
    refine .ite (fun _ => d_snoc F x hl p s 5 hp l _ hlt hmm ho) (fun _ => ?_)
    refine .ite (fun _ => d_snoc F x hl p s 6 hp l _ hlt hmm ho) (fun _ => ?_)
    refine .ite (fun _ => d_snocB F x hl p s 4 1 hp (by decide) (by decide) (by decide) l _ hlt hmm ho) (fun _ => ?_)
    refine W.bind (φ := fun b => b = true → 0 < deep ∧ 4 ≤ most - (l.length : Int)) ?_ fun b hb => ?_
    · refine .ite (fun _ => .ite (fun h => .grd (in64_of (by omega) (by omega)) (.some fun q => ⟨h, by simpa using q⟩)) (fun _ => .some fun q => by cases q)) (fun _ => .some fun q => by cases q)
    refine .ite (fun h => ?_) (fun _ => ?_)
    · obtain ⟨g1, g2⟩ := hb h
      refine .grd (in64_of (by omega) (by omega)) (.grd (in64_of (by omega) (by omega)) (.grd (in64_of (by omega) (by omega)) ?_))
      refine (hr.1 p s (most - (l.length : Int) - 3) kid g1 hp (by omega) (by omega)).bind3 fun u p s hu => ?_
      obtain ⟨u1, u2, u3⟩ := hu
      simp only at u1 u2 u3
      refine (d_Plain F x hl p s 8 u1).bind6 fun a b c d p s hq => ?_
      have hp := hq.1
      simp only at hp
      refine .grd (by omega) (.grd (by simp; omega) ?_)
      have ho1 : okL ((l ++ ([(⟨a, b, c, d⟩ : I4)] : List I4)) ++ u) := (ho.snoc (o := ⟨a, b, c, d⟩) hq.2).app u3
      have hl1 : ((l ++ ([(⟨a, b, c, d⟩ : I4)] : List I4)) ++ u).length + 2 ≤ most.toNat := by simp; omega
      refine W.bind3 (φ := fun t => 0 ≤ t.1 ∧ t.2.2.length + 1 ≤ most.toNat ∧ okL t.2.2) ?_ fun p s l' hq => by
        obtain ⟨q1, q2, q3⟩ := hq
        simp only at q1 q2 q3
        exact .grd (by omega) (.some ⟨q1, by rw [List.length_append]; exact q2, q3.snoc (z 9)⟩)
      refine (d_Once F x hl p s 3 hp).bind3 fun e p s hp => ?_
      refine .ite (fun _ => .grd (by omega) (.some ⟨hp, by rw [List.length_append]; exact hl1, ho1.snoc (z 10)⟩)) (fun _ => .some ⟨hp, Nat.le_of_succ_le hl1, ho1⟩)
    refine W.bind (φ := fun b => b = true → 3 ≤ most - (l.length : Int)) ?_ fun b hb => ?_
    · refine .ite (fun _ => .grd (in64_of (by omega) (by omega)) (.some fun q => by simpa using q)) (fun _ => .some fun q => by cases q)
    refine .ite (fun h => ?_) (fun _ => ?_)
    · have g2 := hb h
      refine (hr.2 p s kid (by omega) hp).bind3 fun u p s hu => ?_
      obtain ⟨u1, u2, u3⟩ := hu
      simp only at u1 u2 u3
      refine (d_Plain F x hl p s 7 u1).bind6 fun a b c d p s hq => ?_
      refine .grd (by omega) (.grd (by simp; omega) (.some ⟨hq.1, by simp; omega, (ho.snoc ⟨by show -1 ≤ (u.length : Int); omega, by show (u.length : Int) ≤ 70000; omega⟩).app u3⟩))
    refine W.bind3 (φ := fun t => 0 ≤ t.1) ?_ fun p s b hp => ?_
    · refine .ite (fun _ => (d_Once F x hl p s 6 hp).bind3 fun e p s hp => .some hp) (fun _ => .some hp)
    simp only at hp
    refine .ite (fun _ => .grd (by omega) (.some ⟨hp, by simp; omega, ho.snoc (z 10)⟩)) (fun _ => ?_)
    exact .ite (fun _ => d_snocB F x hl p s 3 1 hp (by decide) (by decide) (by decide) l _ hlt hmm ho) (fun _ => d_snocB F x hl p s 5 12 hp (by decide) (by decide) (by decide) l _ hlt hmm ho)
theorem d_Gen_R (hf : 1000 < F) : ∀ (k : Nat) (p s most deep : Int) (kid : Bool), 0 ≤ p → 1 ≤ most ∧ most ≤ 100 → 0 ≤ deep ∧ deep ≤ 100 → (most ≤ 2 ∧ deep = 0 ∧ 1 ≤ k) ∨ deep.toNat + 2 ≤ k →
    W (m_spec_l5Gen_R F k x p s most deep kid) (fun t => 0 ≤ t.2.1 ∧ t.1.length ≤ most.toNat ∧ okL t.1) := by
  intro k
  induction k with
  | zero => intro p s most deep kid h1 h2 h3 h4; omega
  | succ k ih =>
    intro p s most deep kid h1 h2 h3 h4
    rw [m_spec_l5Gen_R, m_spec_l5Gen_S]
    refine W.bind3 (φ := fun t => 0 ≤ t.2.1 ∧ t.1.length ≤ most.toNat ∧ okL t.1) ?_ fun a b c h => .some h
    refine (d_Below F x hl p s most h1).bind3 fun v p s hv => ?_
    obtain ⟨v1, v2, v3⟩ := hv
    have v4 := v3 (by omega)
    simp only at v1 v2 v4
    refine .grd (in64_of (by omega) (by omega)) (d_Gen_L F x hl _ most deep kid h2 ⟨h3.2, h3.1⟩ ⟨fun p s m kd q1 q2 q3 q4 => ?_, fun p s kd q1 q2 => ?_⟩ F p s (1 + v) [] (by omega) v1 (by omega) (by simp) (fun o ho => by cases ho))
    · exact ih p s m (deep - 1) kd q2 (by omega) (by omega) (.inr (by omega))
    · exact ih p s 2 0 kd q2 (by omega) (by omega) (.inl (by omega))
theorem d_Gen (hf : 1000 < F) (p s most deep : Int) (kid : Bool) (h1 : 0 ≤ p) (h2 : 1 ≤ most ∧ most ≤ 100) (h3 : 0 ≤ deep ∧ deep ≤ 100) : W (m_spec_l5Gen F x p s most deep kid) (fun t => 0 ≤ t.2.1 ∧ t.1.length ≤ most.toNat ∧ okL t.1) := by
  unfold m_spec_l5Gen
  exact d_Gen_R F x hl hf F p s most deep kid h1 h2 h3 (.inr (by omega))
def okK (l : List KidD) : Prop := ∀ k ∈ l, k.code.length ≤ 100 ∧ okL k.code
theorem d_Prog_L (hf : 1000 < F) (c : List I4) (hc : c.length ≤ 100) (ho : okL c) : ∀ (K : Nat) (p s n : Int) (l : List KidD), 0 < K ∧ n < (K : Int) → n ≤ 10 → 0 ≤ p → (0 ≤ n → (l.length : Int) + n ≤ 3) → l.length ≤ 3 → okK l →
    W (m_spec_l5Prog_L0 F x K p s c l n) (fun t => 0 ≤ t.2.2.1 ∧ t.1 = c ∧ t.2.1.length ≤ 3 ∧ okK t.2.1) := by
  intro K
  induction K with
  | zero => intro p s n l h1 hn h2 h3 h4 h5; omega
  | succ K ih =>
    intro p s n l h1 hn h2 h3 h4 h5
    rw [m_spec_l5Prog_L0]
    refine .ite (fun h => ?_) (fun _ => .some ⟨h2, rfl, h4, h5⟩)
    have h6 := h3 (by omega)
    refine (d_Below F x hl p s 5 h2).bind3 fun v p s hv => ?_
    obtain ⟨v1, v2, v3⟩ := hv
    have v4 := v3 (by decide)
    simp only at v1 v2 v4
    refine .grd (in64_of (by omega) (by omega)) ?_
    refine (d_Gen F x hl hf p s (2 + v) 1 true v1 (by omega) (by decide)).bind3 fun u p s hu => ?_
    obtain ⟨u1, u2, u3⟩ := hu
    simp only at u1 u2 u3
    refine .grd (by omega) (.grd (in64_of (by omega) (by omega)) (ih p s (n - 1) _ (by omega) (by omega) u1 (fun _ => by simp; omega) (by simp; omega) ?_))
    intro k hk
    rcases List.mem_append.1 hk with hk | hk
    · exact h5 k hk
    · simp at hk; subst hk; exact ⟨by show u.length ≤ 100; omega, u3⟩
theorem d_Prog (hf : 1000 < F) (p s : Int) (b : Bool) (hp : 0 ≤ p) : W (m_spec_l5Prog F x p s b) (fun t => 0 ≤ t.2.2.1 ∧ t.1.length ≤ 30 ∧ okL t.1 ∧ t.2.1.length ≤ 3 ∧ okK t.2.1) := by
  unfold m_spec_l5Prog
  refine .ite (fun _ => ?_) (fun _ => ?_)
  · refine (d_Below F x hl p s 4 hp).bind3 fun v p s hv => ?_
    obtain ⟨v1, v2, v3⟩ := hv
    have v4 := v3 (by decide)
    simp only at v1 v2 v4
    refine .grd (in64_of (by omega) (by omega)) ?_
    refine (d_Gen F x hl hf p s (1 + v) 1 false v1 (by omega) (by decide)).bind3 fun u p s hu => ?_
    obtain ⟨u1, u2, u3⟩ := hu
    simp only at u1 u2 u3
    refine (d_Below F x hl p s 4 u1).bind3 fun v' p s hv => ?_
    obtain ⟨w1, w2, w3⟩ := hv
    have w4 := w3 (by decide)
    simp only at w1 w2 w4
    refine .grd (in64_of (by omega) (by omega)) ?_
    refine (d_Gen F x hl hf p s (1 + v') 1 false w1 (by omega) (by decide)).bind3 fun u' p s hu => ?_
    obtain ⟨t1, t2, t3⟩ := hu
    simp only at t1 t2 t3
    have hlen : ((u ++ ([(⟨11, 0, 0, 0⟩ : I4)] : List I4)) ++ u').length ≤ 30 := by simp; omega
    have hok : okL ((u ++ ([(⟨11, 0, 0, 0⟩ : I4)] : List I4)) ++ u') := (u3.snoc ⟨by decide, by decide⟩).app t3
    refine .grd (by omega) (.grd (by simp; omega) (W.bind4 (φ := fun t => 0 ≤ t.2.2.1 ∧ t.1.length ≤ 30 ∧ okL t.1 ∧ t.2.1.length ≤ 3 ∧ okK t.2.1) ?_ fun a b c d h => .some h))
    refine (d_Below F x hl p s 3 t1).bind3 fun v p s hv => ?_
    obtain ⟨v1, v2, v3⟩ := hv
    have v4 := v3 (by decide)
    simp only at v1 v2 v4
    refine .grd (in64_of (by omega) (by omega)) ?_
    refine (d_Prog_L F x hl hf _ (by omega) hok F p s (1 + v) [] (by omega) (by omega) v1 (fun _ => by simp; omega) (by simp) (fun k hk => by cases hk)).mono ?_
    rintro ⟨a, b, c, d⟩ ⟨q1, q2, q3, q4⟩
    simp only at q1 q2 q3 q4
    subst q2
    exact ⟨q1, hlen, hok, q3, q4⟩
  · refine (d_Below F x hl p s 8 hp).bind3 fun v p s hv => ?_
    obtain ⟨v1, v2, v3⟩ := hv
    have v4 := v3 (by decide)
    simp only at v1 v2 v4
    refine .grd (in64_of (by omega) (by omega)) ?_
    refine (d_Gen F x hl hf p s (3 + v) 2 false v1 (by omega) (by decide)).bind3 fun u p s hu => ?_
    obtain ⟨u1, u2, u3⟩ := hu
    simp only at u1 u2 u3
    exact .some ⟨u1, by show u.length ≤ 30; omega, u3, by simp, fun k hk => by cases hk⟩
/-- Any operation. -/
theorem d_Any (p s : Int) (hp : 0 ≤ p) : W (m_spec_l4Any F x p s) (fun t => 0 ≤ t.2.2.2.2.1) := by
  unfold m_spec_l4Any
  refine (d_Below F x hl p s 16 hp).bind3 fun v p s hv => ?_
  obtain ⟨v1, v2, v3⟩ := hv
  have v4 := v3 (by decide)
  simp only at v1 v2 v4
  refine .grd (in64_of (by omega) (by omega)) ?_
  refine (d_Plain F x hl p s (1 + v) v1).bind6 fun a b c d p s hq => ?_
  have hp := hq.1
  simp only at hp
  refine W.bind6 (φ := fun t => 0 ≤ t.2.2.2.2.1) ?_ fun a b c d p s hp => .some hp
  refine (d_Below F x hl p s 16 hp).bind3 fun o p s ho => ?_
  have hp := ho.1
  simp only at hp
  refine .ite (fun _ => (d_Pick F x hl p s _ (by decide) hp).bind3 fun a p s h => .some h.1) (fun _ => ?_)
  refine .ite (fun _ => (d_Pick F x hl p s _ (by decide) hp).bind3 fun a p s h => .some h.1) (fun _ => ?_)
  refine .ite (fun _ => (d_Pick F x hl p s _ (by decide) hp).bind3 fun a p s h => .some h.1) (fun _ => ?_)
  refine .ite (fun _ => (d_Pick F x hl p s _ (by decide) hp).bind3 fun a p s h => .some h.1) (fun _ => ?_)
  exact .some hp
theorem d_Bend_L : ∀ (K : Nat) (p s : Int) (l : List I4), 0 ≤ p → l.length ≤ 100 → 0 < K ∧ 26 < l.length + K →
    W (m_spec_l5Bend_L0 F x K p s l) (fun r => match r with | .brk t => 0 ≤ t.2.1 ∧ t.1.length ≤ 100 | .ret t => 0 ≤ t.2.1 ∧ t.1.length ≤ 100) := by
  intro K
  induction K with
  | zero =>
    intro p s l hp h1 h2
    omega
  | succ K ih =>
    intro p s l hp h1 h2
    rw [m_spec_l5Bend_L0]
    refine (d_Below F x hl p s 2 hp).bind3 fun v p s hv => ?_
    obtain ⟨v1, v2, v3⟩ := hv
    have v4 := v3 (by decide)
    simp only at v1 v2 v4
    refine .grd (in64_of (by omega) (by omega)) (.ite (fun h => ?_) (fun h => .some ⟨v1, h1⟩))
    exact .grd (by omega) (ih p s _ v1 (by simp; omega) (by simp; omega))
/-- A code spoilt. -/
theorem d_Bend (hf : 1000 < F) (p s : Int) (l : List I4) (hp : 0 ≤ p) (h1 : l.length ≤ 100) (ho : okL l) : W (m_spec_l5Bend F x p s l) (fun t => 0 ≤ t.2.1 ∧ t.1.length ≤ 100) := by
  unfold m_spec_l5Bend
  rw [List.nil_append]
  refine .grd (by simp; omega) ?_
  refine .ite (fun _ => .some ⟨hp, by simp⟩) (fun h0 => ?_)
  have hpos : 0 < (l.length : Int) := by omega
  refine (d_Below F x hl p s _ hp).bind3 fun k p s hk => ?_
  obtain ⟨k1, k2, k3⟩ := hk
  have k4 := k3 hpos
  simp only at k1 k2 k4
  have hset : ∀ o : I4, (l.set k.toNat o).length ≤ 100 := fun o => by simpa using h1
  have hat := W.at (l := l) (i := k) ⟨k2, k4⟩
  refine W.lpL (φ := fun t => 0 ≤ t.2.1 ∧ t.1.length ≤ 100) ?_ fun t ht => .some ht
  refine (d_Below F x hl p s 6 k1).bind3 fun v p s hv => ?_
  have hp := hv.1
  simp only at hp
  refine .ite (fun _ => (d_Any F x hl p s hp).bind6 fun a b c d p s hp => hat.bind fun e _ => .some ⟨hp, hset _⟩) (fun _ => ?_)
  refine .ite (fun _ => hat.bind fun e _ => .some ⟨hp, hset _⟩) (fun _ => ?_)
  refine .ite (fun _ => .grd ⟨by omega, by omega⟩ (.grd (in64_of (by omega) (by omega)) (.grd (by omega) (.grd (by simp [subl]; omega) (.some ⟨hp, by simp [subl]; omega⟩))))) (fun _ => ?_)
  refine .ite (fun _ => (d_Bend_L F x hl F p s l hp h1 (by omega)).mono fun r h => by cases r <;> exact h) (fun _ => ?_)
  refine .ite (fun _ => hat.bind fun e he => ?_) (fun _ => ?_)
  · have := ho e he.1
    obtain ⟨q1, q2⟩ := this
    exact .grd (in64_of (by omega) (by omega)) (.some ⟨hp, hset _⟩)
  refine (d_Below F x hl p s 2 hp).bind3 fun v p s hv => ?_
  obtain ⟨v1, v2, v3⟩ := hv
  have v4 := v3 (by decide)
  simp only at v1 v2 v4
  exact .grd (in64_of (by omega) (by omega)) (hat.bind fun e _ => .some ⟨v1, hset _⟩)
end
theorem p_l7Ints_L (fuel : Nat) (x y : List Int) (hl : x.length ≤ 4611686018427387904) (he : x.length = y.length) : ∀ K n, n ≤ x.length → x.length < n + K →
    m_spec_l7Ints_L0 fuel x y K (n : Int) = some (if x.drop n = y.drop n then .brk () else .ret false) := by
  intro K
  induction K with
  | zero => intro n h1 h2; omega
  | succ K ih =>
    intro n h1 h2
    rw [m_spec_l7Ints_L0]
    by_cases h : n < x.length
    · have h' : n < y.length := by omega
      rw [drop_cons h, drop_cons h']
      have := ih (n + 1) (by omega) (by omega)
      simp only [if_pos (lt_cast h), at?_lt h, at?_lt h', Option.bind_some, if_pos (in64_succ h (show x.length ≤ _ by omega)), List.cons.injEq]
      by_cases e : x[n] = y[n]
      · simp only [e, if_true, true_and]; exact this
      · simp [e]
    · rw [if_neg (ge_cast h), drop_end h, drop_end (by omega)]
      simp
theorem p_l7Ints (fuel : Nat) (x y : List Int) (hl : x.length ≤ 4611686018427387904) (hf : x.length < fuel) : m_spec_l7Ints fuel x y = some (decide (x = y)) := by
  unfold m_spec_l7Ints
  by_cases he : x.length = y.length
  · rw [if_pos (by omega)]
    have := p_l7Ints_L fuel x y hl he fuel 0 (by omega) (by omega)
    simp only [List.drop_zero, Int.natCast_zero] at this
    erw [this]
    by_cases e : x = y <;> simp [e, contL, un1]
  · rw [if_neg (by omega)]
    have : x ≠ y := fun e => he (by rw [e])
    simp [this]
theorem p_SSameThings (fuel : Nat) (x y : List Int) (k : Int) (x' y' : List Int) (k' : Int) (hl : x.length ≤ 1048576) (hm : y.length ≤ 1048576) (hf : x.length < fuel) (hg : y.length < fuel) : m_spec_SameThings fuel x y k x' y' k' = some (decide (x = x') && decide (y = y') && decide (k = k')) := by
  unfold m_spec_SameThings
  simp only [p_l7Ints fuel x x' (by omega) hf, p_l7Ints fuel y y' (by omega) hg, Option.bind_some]
  by_cases h1 : x = x' <;> by_cases h2 : y = y' <;> simp [h1, h2]


/-! FnCalc: its draws, and what it says. -/
theorem t_sameInts_L (F : Nat) (x : List Int) (hl : x.length ≤ 1048576) : ∀ K n, n ≤ x.length → x.length < n + K → m_laws_sameInts_L0 F x x K (n : Int) = some (.brk ()) := by
  intro K
  induction K with
  | zero => intro n h1 h2; omega
  | succ K ih =>
    intro n h1 h2
    rw [m_laws_sameInts_L0]
    by_cases h : n < x.length
    · simp only [if_pos (lt_cast h), at?_lt h, Option.bind_some, if_true, if_pos (in64_succ h (show x.length ≤ _ by omega))]
      exact ih (n + 1) (by omega) (by omega)
    · rw [if_neg (ge_cast h)]
theorem t_sameInts (F : Nat) (x : List Int) (hl : x.length ≤ 8) (hf : 8 < F) : m_laws_sameInts F x x = some true := by
  unfold m_laws_sameInts
  have := t_sameInts_L F x (by omega) F 0 (by omega) (by omega)
  rw [if_pos rfl]
  erw [this]; rfl
section
variable (F : Nat) (x : List UInt8) (hl : x.length ≤ 1048576)
include hl
end
/-! The draws of a kid's run. -/
section
variable (F : Nat) (x : List UInt8) (hl : x.length ≤ 1048576)
include hl
theorem d_Vals_L : ∀ (K n : Nat) (p s : Int) (l : List Int), l.length = n → n ≤ 8 → 8 < n + K → 0 ≤ p → (∀ v ∈ l, 0 ≤ v ∧ v ≤ 65535) → W (m_spec_l3DrawVals_L0 F x K p s l (n : Int)) (fun t => 0 ≤ t.2.1 ∧ VL 8 65535 t.1) := by
  intro K
  induction K with
  | zero => intro n p s l h1 h2 h3; omega
  | succ K ih =>
    intro n p s l h1 h2 h3 hp hv
    rw [m_spec_l3DrawVals_L0]
    refine .ite (fun h => (d_Draw3 F x hl p s hp).bind3 fun v p s hd => ?_) (fun h => .some ⟨hp, by show l.length = 8; omega, hv⟩)
    obtain ⟨d1, d2, d3⟩ := hd
    simp only at d1 d2 d3
    refine .grd (by omega) (.grd (in64_of (by omega) (by omega)) ?_)
    rw [cast_succ]
    exact ih (n + 1) p s (l ++ [v]) (by rw [List.length_append, List.length_singleton, h1]) (by omega) (by omega) d1 (fun w hw => by
      rcases List.mem_append.1 hw with hw | hw
      · exact hv w hw
      · have := List.mem_singleton.1 hw; subst this; exact ⟨d2, d3⟩)
theorem d_Vals (hf : 1000 < F) (p s : Int) (hp : 0 ≤ p) : W (m_spec_l3DrawVals F x p s) (fun t => 0 ≤ t.2.1 ∧ VL 8 65535 t.1) := by
  unfold m_spec_l3DrawVals
  exact (d_Vals_L F x hl F 0 p s [] rfl (by omega) (by omega) hp (fun v hv => by cases hv)).bind3 fun a b c h => .some h
end

/-! The draws of programs, orders and things. -/
section
variable (F : Nat) (x : List UInt8) (hl : x.length ≤ 1048576)
include hl
theorem d_AnyProg (hf : 1000 < F) (p s : Int) (hp : 0 ≤ p) : W (m_spec_l5AnyProg F x p s) (fun t => 0 ≤ t.2.2.1 ∧ t.1.length ≤ 100 ∧ t.2.1.length ≤ 4 ∧ ∀ k ∈ t.2.1, k.code.length ≤ 100) := by
  unfold m_spec_l5AnyProg
  refine (d_Once F x hl p s 2 hp).bind3 fun a p s hp => ?_
  refine (d_Prog F x hl hf p s a hp).bind4 fun c k p s hc => ?_
  obtain ⟨c1, c2, c3, c4, c5⟩ := hc
  simp only at c1 c2 c3 c4 c5
  have hk : ∀ q ∈ k, q.code.length ≤ 100 := fun q hq => (c5 q hq).1
  refine W.bind4 (φ := fun t => 0 ≤ t.2.2.1 ∧ t.1.length ≤ 100 ∧ t.2.1.length ≤ 4 ∧ ∀ k ∈ t.2.1, k.code.length ≤ 100) ?_ fun a b c d h => .some h
  refine (d_Below F x hl p s 10 c1).bind3 fun v p s hv => ?_
  obtain ⟨v1, v2, v3⟩ := hv
  simp only at v1 v2 v3
  refine .ite (fun _ => (d_Bend F x hl hf p s c v1 (by omega) c3).bind3 fun a b d h => .some ⟨h.1, h.2, by show k.length ≤ 4; omega, hk⟩) (fun _ => ?_)
  refine .ite (fun _ => .ite (fun h0 => ?_) (fun _ => .some ⟨v1, by show c.length ≤ 100; omega, by show k.length ≤ 4; omega, hk⟩)) (fun _ => ?_)
  · refine (d_Below F x hl p s (k.length : Int) v1).bind3 fun i p s hi => ?_
    obtain ⟨i1, i2, i3⟩ := hi
    simp only at i1 i2 i3
    refine (W.at (l := k) (i := i) ⟨i2, i3 h0⟩).bind fun e he => ?_
    have ho := c5 e he.1
    refine (d_Bend F x hl hf p s e.code i1 ho.1 ho.2).bind3 fun a b d h => .some ⟨h.1, by show c.length ≤ 100; omega, by show (k.set i.toNat _).length ≤ 4; rw [List.length_set]; omega, fun q hq => ?_⟩
    rcases List.mem_or_eq_of_mem_set hq with hq | hq
    · exact hk q hq
    · subst hq; exact h.2
  refine .ite (fun _ => .grd (by omega) (.some ⟨v1, by show c.length ≤ 100; omega, by show (k ++ [_]).length ≤ 4; rw [List.length_append, List.length_singleton]; omega, fun q hq => ?_⟩)) (fun _ => ?_)
  · rcases List.mem_append.1 hq with hq | hq
    · exact hk q hq
    · have := List.mem_singleton.1 hq; subst this; exact Nat.zero_le _
  exact .ite (fun _ => .some ⟨v1, by show c.length ≤ 100; omega, Nat.zero_le _, fun q hq => (by cases hq)⟩) (fun _ => .some ⟨v1, by show c.length ≤ 100; omega, by show k.length ≤ 4; omega, hk⟩)
theorem d_Order_L (n : Nat) (hn : n ≤ 4) : ∀ (K i : Nat) (p s : Int) (l : List Int), i ≤ n → n < i + K → 0 ≤ p → l.length ≤ i → W (m_spec_l7AnyOrder_L0 F x (n : Int) K p s l (i : Int)) (fun t => 0 ≤ t.2.1 ∧ t.1.length ≤ 4) := by
  intro K
  induction K with
  | zero => intro i p s l h1 h2; omega
  | succ K ih =>
    intro i p s l h1 h2 hp h3
    rw [m_spec_l7AnyOrder_L0]
    refine .ite (fun h => ?_) (fun _ => .some ⟨hp, by show l.length ≤ 4; omega⟩)
    refine W.bind3 (φ := fun t => 0 ≤ t.1 ∧ t.2.2.length ≤ i + 1) ?_ fun p s m hm => ?_
    · refine (d_Below F x hl p s _ hp).bind3 fun v p s hv => ?_
      refine W.bind3 (φ := fun t => 0 ≤ t.1) ((d_Once F x hl p s 20 hv.1).bind3 fun b p s hp => .ite (fun _ => .some hp) (fun _ => .some hp)) fun p s v hp => ?_
      refine (d_Once F x hl p s 12 hp).bind3 fun b p s hp => ?_
      have hs : ∀ v : Int, (l ++ [v]).length ≤ i + 1 := fun v => by rw [List.length_append, List.length_singleton]; omega
      refine .ite (fun _ => .grd (by omega) (.some ⟨hp, hs _⟩)) (fun _ => ?_)
      refine .ite (fun _ => .grd (by omega) (.some ⟨hp, hs _⟩)) (fun h0 => ?_)
      refine .grd (in64_of (by omega) (by omega)) ((W.at (l := l) (i := (l.length : Int) - 1) ⟨by omega, by omega⟩).bind fun e _ => ?_)
      exact .ite (fun _ => .some ⟨hp, by show l.length ≤ i + 1; omega⟩) (fun _ => .grd (by omega) (.some ⟨hp, hs _⟩))
    · refine .grd (in64_of (by omega) (by omega)) ?_
      rw [cast_succ]
      exact ih (i + 1) p s m (by omega) (by omega) hm.1 hm.2
theorem d_Order (hf : 1000 < F) (n : Nat) (hn : n ≤ 4) (p s : Int) (hp : 0 ≤ p) : W (m_spec_l7AnyOrder F x p s (n : Int)) (fun t => 0 ≤ t.2.1 ∧ t.1.length ≤ 4) := by
  unfold m_spec_l7AnyOrder
  exact (d_Order_L F x hl n hn F 0 p s [] (Nat.zero_le _) (by omega) hp (Nat.le_refl _)).bind3 fun a b c h => .some h
theorem d_Things_L : ∀ (K n : Nat) (p s : Int) (l : List Int), l.length = n → n ≤ 8 → 8 < n + K → 0 ≤ p → W (m_spec_l7Things_L0 F x K p s l (n : Int)) (fun t => 0 ≤ t.2.1 ∧ t.1.length = 8) := by
  intro K
  induction K with
  | zero => intro n p s l h1 h2 h3; omega
  | succ K ih =>
    intro n p s l h1 h2 h3 hp
    rw [m_spec_l7Things_L0]
    refine .ite (fun h => ?_) (fun h => .some ⟨hp, by show l.length = 8; omega⟩)
    refine W.bind3 (φ := fun t => 0 ≤ t.1 ∧ t.2.2.length = n + 1) ?_ fun p s m hm => ?_
    · refine W.bind3 (φ := fun t => 0 ≤ t.1) ?_ fun p s v hp => .grd (by omega) (.some ⟨hp, by show (l ++ [v]).length = n + 1; rw [List.length_append, List.length_singleton, h1]⟩)
      refine (d_Once F x hl p s 2 hp).bind3 fun b p s hp => ?_
      refine .ite (fun _ => (d_Draw3 F x hl p s hp).bind3 fun v p s hv => ?_) (fun _ => .some hp)
      obtain ⟨v1, v2, v3⟩ := hv
      simp only at v1 v2 v3
      exact .grd (in64_of (by omega) (by omega)) (.some v1)
    · refine .grd (in64_of (by omega) (by omega)) ?_
      rw [cast_succ]
      exact ih (n + 1) p s m hm.2 (by omega) (by omega) hm.1
theorem d_Things (hf : 1000 < F) (p s : Int) (hp : 0 ≤ p) : W (m_spec_l7Things F x p s) (fun t => 0 ≤ t.2.2.2.1 ∧ t.1.length = 8 ∧ t.2.1.length = 8) := by
  unfold m_spec_l7Things
  refine (d_Vals F x hl hf p s hp).bind3 fun a p s ha => ?_
  refine (d_Draw3 F x hl p s ha.1).bind3 fun n p s hn => ?_
  exact (d_Things_L F x hl F 0 p s [] rfl (by omega) (by omega) hn.1).bind3 fun m p s hm => .some ⟨hm.1, ha.2.1, hm.2⟩
theorem d_AnyThings (hf : 1000 < F) (p s : Int) (hp : 0 ≤ p) : W (m_spec_l7AnyThings F x p s) (fun t => t.1.length ≤ 8 ∧ t.2.1.length ≤ 8) := by
  unfold m_spec_l7AnyThings
  refine (d_Things F x hl hf p s hp).bind5 fun a m n p s h => ?_
  obtain ⟨h1, h2, h3⟩ := h
  simp only at h1 h2 h3
  refine W.bind5 (φ := fun t => t.1.length ≤ 8 ∧ t.2.1.length ≤ 8) ?_ fun a b c d e h => .some h
  have ha : a.length ≤ 8 := by omega
  have hm : m.length ≤ 8 := by omega
  have hsub : ∀ (l : List Int) (j : Int), l.length ≤ 8 → (subl l 0 j).length ≤ 8 := fun l j h => by unfold subl; rw [List.length_take, List.length_drop]; omega
  refine (d_Below F x hl p s 16 h1).bind3 fun v p s hv => ?_
  refine .ite (fun _ => .grd ⟨by omega, by omega⟩ (.some ⟨hsub a 7 ha, hm⟩)) (fun _ => ?_)
  refine .ite (fun _ => (d_Below F x hl p s 8 hv.1).bind3 fun i p s hi => ?_) (fun _ => ?_)
  · obtain ⟨i1, i2, i3⟩ := hi
    simp only at i1 i2 i3
    have := i3 (by decide)
    exact (W.at (l := m) (i := i) ⟨i2, by omega⟩).bind fun e _ => .some ⟨ha, by show (m.set i.toNat _).length ≤ 8; rw [List.length_set]; exact hm⟩
  refine .ite (fun _ => .some ⟨ha, hm⟩) (fun _ => ?_)
  refine .ite (fun _ => .grd ⟨by omega, by omega⟩ (.some ⟨ha, hsub m 3 hm⟩)) (fun _ => ?_)
  refine .ite (fun _ => (d_Below F x hl p s 8 hv.1).bind3 fun i p s hi => ?_) (fun _ => .some ⟨ha, hm⟩)
  obtain ⟨i1, i2, i3⟩ := hi
  simp only at i1 i2 i3
  have := i3 (by decide)
  exact (W.at (l := a) (i := i) ⟨i2, by omega⟩).bind fun e _ => .some ⟨by show (a.set i.toNat _).length ≤ 8; rw [List.length_set]; exact ha, hm⟩
def PSm (ps : List ProgD) : Prop := ∀ p ∈ ps, p.code.length ≤ 100 ∧ p.kids.length ≤ 4 ∧ ∀ k ∈ p.kids, k.code.length ≤ 100
def OSm (os : List OrdD) : Prop := ∀ o ∈ os, o.kids.length ≤ 4
theorem d_All_L (hf : 1000 < F) : ∀ (K i : Nat) (p s : Int) (ps : List ProgD) (os : List OrdD), i < K → ps.length + i ≤ 3 → os.length + i ≤ 3 → 0 ≤ p → PSm ps → OSm os → W (m_spec_DrawSerialAll_L0 F x K p s ps os (i : Int)) (fun t => 0 ≤ t.1 ∧ t.2.2.1.length ≤ 3 ∧ t.2.2.2.length ≤ 3 ∧ PSm t.2.2.1 ∧ OSm t.2.2.2) := by
  intro K
  induction K with
  | zero => intro i p s ps os h; omega
  | succ K ih =>
    intro i p s ps os h1 h2 h3 hp hP hO
    rw [m_spec_DrawSerialAll_L0]
    refine .ite (fun h => ?_) (fun _ => .some ⟨hp, by show ps.length ≤ 3; omega, by show os.length ≤ 3; omega, hP, hO⟩)
    refine W.bind4 (φ := fun t => 0 ≤ t.1 ∧ t.2.2.1.length = ps.length + 1 ∧ t.2.2.2.length = os.length + 1 ∧ PSm t.2.2.1 ∧ OSm t.2.2.2) ?_ fun p s ps' os' hh => ?_
    · refine (d_Once F x hl p s 3 hp).bind3 fun b p s hp => ?_
      refine (d_Prog F x hl hf p s b hp).bind4 fun c k p s hc => ?_
      obtain ⟨c1, c2, c3, c4, c5⟩ := hc
      simp only at c1 c2 c3 c4 c5
      refine W.bind4 (φ := fun t => 0 ≤ t.1 ∧ t.2.2.1.length ≤ 100 ∧ t.2.2.2.length ≤ 4 ∧ ∀ k ∈ t.2.2.2, k.code.length ≤ 100) ?_ fun p s c k hc => ?_
      · refine (d_Once F x hl p s 30 c1).bind3 fun b p s hp => ?_
        refine .ite (fun _ => (d_AnyProg F x hl hf p s hp).bind4 fun a b c d h => .some h) (fun _ => .some ⟨hp, by show c.length ≤ 100; omega, by show k.length ≤ 4; omega, fun q hq => (c5 q hq).1⟩)
      · obtain ⟨k1, k2, k3, k4⟩ := hc
        simp only at k1 k2 k3 k4
        refine .grd (by omega) ((d_Order F x hl hf k.length k3 p s k1).bind3 fun o p s ho => ?_)
        obtain ⟨o1, o2⟩ := ho
        simp only at o1 o2
        refine .grd (by omega) (.some ⟨o1, by show (ps ++ [_]).length = _; rw [List.length_append, List.length_singleton], by show (os ++ [_]).length = _; rw [List.length_append, List.length_singleton], fun q hq => ?_, fun q hq => ?_⟩)
        · rcases List.mem_append.1 hq with hq | hq
          · exact hP q hq
          · have := List.mem_singleton.1 hq; subst this; exact ⟨k2, k3, k4⟩
        · rcases List.mem_append.1 hq with hq | hq
          · exact hO q hq
          · have := List.mem_singleton.1 hq; subst this; exact o2
    · obtain ⟨g1, g2, g3, g4, g5⟩ := hh
      simp only at g1 g2 g3 g4 g5
      refine .grd (in64_of (by omega) (by omega)) ?_
      rw [show (i : Int) - 1 = ((i - 1 : Nat) : Int) by omega]
      exact ih (i - 1) p s ps' os' (by omega) (by omega) (by omega) g1 g4 g5
theorem d_SerialAll (hx : x.length < F) (hf : 1000 < F) : W (m_spec_DrawSerialAll F x) (fun t => t.1.length ≤ 3 ∧ t.2.1.length ≤ 4 ∧ PSm t.1 ∧ OSm t.2.1 ∧ t.2.2.1.length ≤ 8 ∧ t.2.2.2.1.length ≤ 8) := by
  unfold m_spec_DrawSerialAll
  obtain ⟨s, e⟩ := p_l1New F x hl hx
  rw [e]
  refine W.bind2 (φ := fun t => t = (0, s)) ⟨_, rfl, rfl⟩ fun a b h => ?_
  obtain ⟨rfl, rfl⟩ := Prod.mk.inj h
  refine W.bind4 (φ := fun t => 0 ≤ t.1 ∧ t.2.2.1.length ≤ 3 ∧ t.2.2.2.length ≤ 3 ∧ PSm t.2.2.1 ∧ OSm t.2.2.2) ?_ fun p s ps os h => ?_
  · refine (d_Below F x hl 0 _ 4 (by omega)).bind3 fun i p s hi => ?_
    obtain ⟨i1, i2, i3⟩ := hi
    simp only at i1 i2 i3
    have i4 := i3 (by decide)
    obtain ⟨j, rfl⟩ := Int.eq_ofNat_of_zero_le i2
    exact d_All_L F x hl hf F j p s [] [] (by omega) (by show 0 + j ≤ 3; omega) (by show 0 + j ≤ 3; omega) i1 (fun q hq => (by cases hq)) (fun q hq => (by cases hq))
  · obtain ⟨g1, g2, g3, g4, g5⟩ := h
    simp only at g1 g2 g3 g4 g5
    refine W.bind3 (φ := fun t => 0 ≤ t.1 ∧ t.2.2.length ≤ 4 ∧ OSm t.2.2) ?_ fun p s os hh => ?_
    · refine (d_Once F x hl p s 12 g1).bind3 fun b p s hp => ?_
      refine .ite (fun _ => .grd (by omega) (.some ⟨hp, by show (os ++ [_]).length ≤ 4; rw [List.length_append, List.length_singleton]; omega, fun q hq => ?_⟩)) (fun _ => .some ⟨hp, by show os.length ≤ 4; omega, g5⟩)
      rcases List.mem_append.1 hq with hq | hq
      · exact g5 q hq
      · have := List.mem_singleton.1 hq; subst this; exact Nat.zero_le _
    · obtain ⟨k1, k2, k3⟩ := hh
      simp only at k1 k2 k3
      exact (d_AnyThings F x hl hf p s k1).bind5 fun a m n p s h => .some ⟨g2, k2, g4, k3, h⟩
end

/-! The law. -/
theorem sameI (F : Nat) (x : List Int) (hl : x.length ≤ 8) (hf : 8 < F) : m_laws_sameInts F x x = some true := t_sameInts F x hl hf
theorem sameT (F : Nat) (x y : List Int) (k : Int) (hl : x.length ≤ 8) (hm : y.length ≤ 8) (hf : 8 < F) : m_spec_SameThings F x y k x y k = some true := by
  rw [p_SSameThings F x y k x y k (by omega) (by omega) (by omega) (by omega), decide_eq_true rfl, decide_eq_true rfl, decide_eq_true rfl]; rfl
theorem thB_of {a m : List Int} {n : Int} (h1 : VL 8 65535 a) (h2 : VL 8 65536 m) (h3 : 0 ≤ n ∧ n ≤ 65535) : thB a m n = true := by
  have e1 := h1.1
  have e2 := h2.1
  have e3 : mapB m = true := List.all_eq_true.2 fun v hv => inB_true.2 (h2.2 v hv)
  unfold thB
  rw [h1.valsB, e3, e1, e2, inB_true.2 h3]; rfl
theorem bM3 {A B C γ δ : Type} (a : A) (b : B) (c : C) (f : A → B → C → Option (Lp γ δ)) : ((some (Lp.brk (a, b, c))).bind <| contM <| un3 f) = f a b c := rfl
theorem bL3 {A B C δ : Type} (a : A) (b : B) (c : C) (f : A → B → C → Option δ) : ((some (Lp.brk (a, b, c))).bind <| contL <| un3 f) = f a b c := rfl
theorem fnSerial_none (F : Nat) (ps : List ProgD) (os : List OrdD) (a m : List Int) (n : Int) (hF : 9 < F) :
    (bind4 (some (([] : List RunD), ([] : List Int), ([] : List Int), (0 : Int))) fun y7 y8 y9 y10 =>
  bind4 (some (([] : List RunD), ([] : List Int), ([] : List Int), (0 : Int))) fun y11 y12 y13 y14 =>
  (m_spec_SameThings F y8 y9 y10 y12 y13 y14).bind fun y15 =>
  if y15 = true then
    (
      (
        if (ps.length : Int) < (y7.length : Int) then
          some true
        else
        some (decide ((os.length : Int) < (y7.length : Int)))).bind fun z1 =>
      if z1 = true then
        some (Lp.ret false)
      else
      some (Lp.brk ())).bind <| contL <| un1 fun _ =>
    (m_laws_FnSerial_L0 F ps os y7 F a m n 0).bind <| contL <| un3 fun z2 z3 z4 =>
    (
      if (y7.length : Int) = 0 then
        some true
      else
      if (y7.length : Int) = (ps.length : Int) then
        (m_spec_SameThings F z2 z3 z4 y8 y9 y10).bind fun y25 =>
        some y25
      else
      some false).bind fun z19 =>
    some z19
  else
  some false) = some true := by
  obtain ⟨f, rfl⟩ : ∃ f, F = f + 1 := ⟨F - 1, by omega⟩
  have c1 : ¬ (ps.length : Int) < ((([] : List RunD).length : Nat) : Int) := by rw [List.length_nil]; omega
  have c2 : ¬ (os.length : Int) < ((([] : List RunD).length : Nat) : Int) := by rw [List.length_nil]; omega
  have hL : m_laws_FnSerial_L0 (f + 1) ps os [] (f + 1) a m n 0 = some (.brk (a, m, n)) := by
    rw [m_laws_FnSerial_L0, if_neg (by decide)]
  rw [bB4, bB4, sameT (f + 1) [] [] 0 (by decide) (by decide) (by omega), Option.bind_some, if_pos rfl, if_neg c1, decide_eq_false c2, Option.bind_some, if_neg (by decide), bL1, hL, bL3]
  rfl
theorem p_Serial_L (F : Nat) (ps : List ProgD) (os : List OrdD) (hl : ps.length ≤ 1048576) (he : ps.length = os.length) (hP : PBd F ps) (hO : OBd os) (hF : 3000010 < F) (rs : List RunD) (fin : List Int × List Int × Int) : ∀ (K n : Nat) (A rs' : List RunD) (a m : List Int) (c : Int), n ≤ ps.length → ps.length < n + K → A.length = n → thB a m c = true → serL (ps.drop n) (os.drop n) a m c = some (rs', fin) → rs = A ++ rs' →
    m_laws_FnSerial_L0 F ps os rs K a m c (n : Int) = some (.brk fin) := by
  intro K
  induction K with
  | zero => intro n A rs' a m c h1 h2; omega
  | succ K ih =>
    intro n A rs' a m c h1 h2 h3 h4 h5 h6
    obtain ⟨t1, t2, _⟩ := thB_parts h4
    have ta := t1.1
    have tm := t2.1
    rw [m_laws_FnSerial_L0]
    by_cases h : n < ps.length
    · have h' : n < os.length := by omega
      obtain ⟨b1, b2, b3⟩ := hP _ (List.getElem_mem h)
      have b4 := hO _ (List.getElem_mem h')
      have i1 : in64 ((n : Int) + 1) := in64_of (by omega) (by omega)
      have key := p_Serial F ps[n].code ps[n].kids os[n].kids a m c b1 b2 b3 b4 (by omega) (by omega) hF
      have hok := serO_ok ps[n].code ps[n].kids os[n].kids a m c
      rw [drop_cons h, drop_cons h', serL] at h5
      rw [at?_lt h, at?_lt h', Option.bind_some, Option.bind_some, key]
      generalize serO ps[n].code ps[n].kids os[n].kids a m c = q at *
      obtain ⟨q1, q2, q3, q4, q5⟩ := q
      dsimp only at h5 hok
      by_cases hz : q1 = 0
      · rw [if_pos hz] at h5; cases h5
      · rw [if_neg hz] at h5
        cases hu : serL (ps.drop (n + 1)) (os.drop (n + 1)) q3 q4 q5 with
        | none => rw [hu] at h5; cases h5
        | some u =>
          rw [hu] at h5
          obtain ⟨u1, u2⟩ := u
          have h7 := Option.some.inj h5
          obtain ⟨h8, h9⟩ := Prod.mk.inj h7
          try dsimp only at h8
          try dsimp only at h9
          subst h9
          rcases hok with hok | ⟨_, k1, k2, k3, k4, k5⟩
          · have := congrArg Prod.fst hok; exact absurd this hz
          try dsimp only at k1
          try dsimp only at k2
          try dsimp only at k3
          try dsimp only at k4
          try dsimp only at k5
          have v2 := k2.1
          have v3 := k3.1
          have v4 := k4.1
          have hth := thB_of k3 k4 k5
          have hat : at? rs (n : Int) = some ⟨q1, q2, q3, q4, q5⟩ := by rw [h6, ← h8]; exact at?_mid h3 _ _
          have hlen : (n : Int) < (rs.length : Int) := by rw [h6, ← h8, List.length_append, List.length_cons, h3]; omega
          have s1 := sameI F q2 (by omega) (by omega)
          have s2 := sameT F q3 q4 q5 (by omega) (by omega) (by omega)
          have s3 := p_SThingsOk F q3 q4 q5 (by omega) (by omega) (by omega) (by omega)
          rw [hth] at s3
          have hnext := ih (n + 1) (A ++ [⟨q1, q2, q3, q4, q5⟩]) u1 q3 q4 q5 (by omega) (by omega) (by rw [List.length_append, List.length_singleton, h3]) hth hu (by rw [h6, ← h8, List.append_assoc]; rfl)
          rw [if_pos hlen, bB5, bB5, hat, Option.bind_some, if_pos rfl, s1, Option.bind_some, if_pos rfl, s2, Option.bind_some, if_pos rfl, s3, Option.bind_some, Bool.not_true, Option.bind_some, if_neg (by decide), bM1]
          rcases k1 with k1 | ⟨k1, k6⟩
          · rw [if_neg (show ¬ q1 = 2 by omega), Option.bind_some, if_neg (by decide), bM1, bM3, if_pos i1, cast_succ]
            exact hnext
          · obtain ⟨w1, w2⟩ := Prod.mk.inj k6
            obtain ⟨w2, w3⟩ := Prod.mk.inj w2
            subst w1 w2 w3
            rw [if_pos k1, s2, Option.bind_some, Bool.not_true, Option.bind_some, if_neg (by decide), bM1, bM3, if_pos i1, cast_succ]
            exact hnext
    · have hn : n = ps.length := by omega
      rw [drop_end h, serL] at h5
      have h7 := Option.some.inj h5
      obtain ⟨h8, h9⟩ := Prod.mk.inj h7
      have hr : rs.length = n := by rw [h6, ← h8, List.append_nil, h3]
      rw [if_neg (by rw [hr]; omega), ← h9]
theorem pure_FnSerial {x : List UInt8} (hx : x.length ≤ maxLen) : ∃ fuel, m_laws_FnSerial fuel x = some true := by
  refine ⟨3000020, ?_⟩
  generalize hF : (3000020 : Nat) = F
  unfold m_laws_FnSerial m_laws_big
  rw [Option.bind_some]
  by_cases hs : (1048576 : Int) < (x.length : Int)
  · rw [decide_eq_true hs, if_pos rfl]
  rw [decide_eq_false hs, if_neg (by decide)]
  obtain ⟨⟨ps, os, a, m, n⟩, e, l1, l2, hPs, hOs, la, lm⟩ := d_SerialAll F x (by omega) (by omega) (by omega)
  dsimp only at l1 l2 hPs hOs la lm
  have hP : PBd F ps := fun p hp => by
    obtain ⟨p1, p2, p3⟩ := hPs p hp
    exact ⟨by omega, by omega, fun k hk => by have := p3 k hk; omega⟩
  have hO : OBd os := fun o ho => by have := hOs o ho; omega
  have e1 := p_SerialAll F ps os a m n (by omega) (by omega) hP hO (by omega) (by omega) (by omega)
  have e2 := s_SerialAll F ps os a m n (by omega) (by omega) hP hO (by omega) (by omega) (by omega)
  obtain ⟨g1, g2, g3, g4⟩ := serA_ok ps os a m n
  rw [e, bB5, e1, e2]
  by_cases hg : ps.length = os.length ∧ thB a m n = true
  · cases hu : serL ps os a m n with
    | some u =>
      have hA : serA ps os a m n = u := by unfold serA; rw [if_pos hg, hu]
      rw [hA] at g1 g2 g3 g4 ⊢
      obtain ⟨rs, fin⟩ := u
      obtain ⟨f1, f2, f3⟩ := fin
      dsimp only at g1 g2 g3 g4
      have hst := sameT F f1 f2 f3 g3 g4 (by omega)
      have hrl : rs.length = ps.length := by
        obtain ⟨t1, t2, _⟩ := thB_parts hg.2
        exact (serL_ok ps os a m n _ (by rw [t1.1]; exact Nat.le_refl _) (by rw [t2.1]; exact Nat.le_refl _) hu).1
      have hL := p_Serial_L F ps os (by omega) hg.1 hP hO (by omega) rs (f1, f2, f3) F 0 [] rs a m n (Nat.zero_le _) (by omega) rfl hg.2 (by rw [List.drop_zero, List.drop_zero]; exact hu) rfl
      have hL' : m_laws_FnSerial_L0 F ps os rs F a m n 0 = _ := hL
      have c1 : ¬ (ps.length : Int) < (rs.length : Int) := by omega
      have c2 : ¬ (os.length : Int) < (rs.length : Int) := by omega
      rw [bB4, bB4, hst, Option.bind_some, if_pos rfl, if_neg c1, decide_eq_false c2, Option.bind_some, if_neg (by decide), bL1, hL', bL3]
      by_cases h0 : (rs.length : Int) = 0
      · rw [if_pos h0]; rfl
      · rw [if_neg h0, if_pos (show (rs.length : Int) = (ps.length : Int) by omega), hst]; rfl
    | none =>
      have hA : serA ps os a m n = ([], [], [], 0) := by unfold serA; rw [if_pos hg, hu]
      rw [hA]
      exact fnSerial_none F ps os a m n (by omega)
  · have hA : serA ps os a m n = ([], [], [], 0) := by unfold serA; rw [if_neg hg]
    rw [hA]
    exact fnSerial_none F ps os a m n (by omega)
end Go.Proofs.Ytknghnmcckjjbaa
