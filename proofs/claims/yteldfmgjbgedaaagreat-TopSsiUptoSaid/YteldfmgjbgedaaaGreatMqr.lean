/-
  Package siread: may, span, covers, holds.
  Package siread: the closures of Note and Readers; what a note covers.
-/
import Derived.Test.YteldfmgjbgedaaaGreatMp
namespace Go.Proofs.YteldfmgjbgedaaaGreat
open Go.RowKit Go.Maps

/-- A note's value. -/
def rdV (y : RdT) : Value := .agg #[.string ⟨#[116]⟩, .int .i64 y.kind, .string ⟨y.lo.toArray⟩, .string ⟨y.hi.toArray⟩]

theorem lt_irrefl : ∀ a : List UInt8, Op.bytesLess a a = false
  | [] => rfl
  | a :: x => by simp [Op.bytesLess, lt_irrefl x]
theorem le_eq : ∀ a b : List UInt8, (Op.bytesLess a b || a == b) = !Op.bytesLess b a
  | [], [] => rfl
  | [], _ :: _ => rfl
  | _ :: _, [] => rfl
  | a :: x, b :: y => by
    have ih := le_eq x y
    simp only [Op.bytesLess]
    rcases Nat.lt_trichotomy a.toNat b.toNat with h | h | h
    · have h1 : a < b := h
      have h2 : ¬ b < a := fun hh => by have : b.toNat < a.toNat := hh; omega
      have h3 : ¬ b = a := fun e => by subst e; omega
      simp [h1, h2, h3]
    · have e : a = b := UInt8.toNat.inj h
      subst e
      have h2 : ¬ a < a := fun hh => by have : a.toNat < a.toNat := hh; omega
      simp [h2, ← ih]
    · have h1 : b < a := h
      have h2 : ¬ a < b := fun hh => by have : a.toNat < b.toNat := hh; omega
      have h3 : ¬ a = b := fun e => by subst e; omega
      simp [h1, h2, h3]
theorem lt_trans : ∀ {a b c : List UInt8}, Op.bytesLess a b = true → Op.bytesLess b c = true → Op.bytesLess a c = true
  | _, _, [], _, h => by simp [Op.bytesLess] at h
  | _, [], _ :: _, h, _ => by simp [Op.bytesLess] at h
  | [], _ :: _, _ :: _, _, _ => by simp [Op.bytesLess]
  | a :: x, b :: y, c :: z, h1, h2 => by
    simp only [Op.bytesLess, Bool.or_eq_true, Bool.and_eq_true, decide_eq_true_eq, beq_iff_eq] at h1 h2 ⊢
    rcases h1 with h1 | ⟨rfl, h1⟩
    · rcases h2 with h2 | ⟨rfl, h2⟩
      · exact .inl (by have e1 : a.toNat < b.toNat := h1; have e2 : b.toNat < c.toNat := h2; show a.toNat < c.toNat; omega)
      · exact .inl h1
    · rcases h2 with h2 | ⟨rfl, h2⟩
      · exact .inl h2
      · exact .inr ⟨rfl, lt_trans h1 h2⟩
/-- Not less, and less: of what lies between. -/
theorem le_lt {a b c : List UInt8} (h1 : Op.bytesLess b a = false) (h2 : Op.bytesLess b c = true) : Op.bytesLess a c = true := by
  have := le_eq a b
  rw [h1] at this
  simp only [Bool.not_false, Bool.or_eq_true, beq_iff_eq] at this
  rcases this with h | h
  · exact lt_trans h h2
  · rw [h]; exact h2
theorem lt_le {a b c : List UInt8} (h1 : Op.bytesLess a b = true) (h2 : Op.bytesLess c b = false) : Op.bytesLess a c = true := by
  have := le_eq b c
  rw [h2] at this
  simp only [Bool.not_false, Bool.or_eq_true, beq_iff_eq] at this
  rcases this with h | h
  · exact lt_trans h1 h
  · rw [← h]; exact h1
theorem le_le {a b c : List UInt8} (h1 : Op.bytesLess b a = false) (h2 : Op.bytesLess c b = false) : Op.bytesLess c a = false := by
  cases h : Op.bytesLess c a with
  | false => rfl
  | true => have := lt_le h h1; rw [h2] at this; cases this
/-- The one key of a range from a key to the next. -/
theorem next_key : ∀ {a k : List UInt8}, Op.bytesLess k a = false → Op.bytesLess k (a ++ [0]) = true → k = a
  | [], [], _, _ => rfl
  | [], c :: k, _, h => by
    simp only [List.nil_append, Op.bytesLess, Bool.or_eq_true, Bool.and_eq_true, decide_eq_true_eq] at h
    rcases h with h | ⟨_, h⟩
    · exact absurd h (by simp)
    · cases k <;> simp at h
  | _ :: _, [], h, _ => by simp [Op.bytesLess] at h
  | a :: x, c :: k, h1, h2 => by
    simp only [List.cons_append, Op.bytesLess, Bool.or_eq_true, Bool.and_eq_true, decide_eq_true_eq, beq_iff_eq, Bool.or_eq_false_iff, Bool.and_eq_false_iff, decide_eq_false_iff_not, beq_eq_false_iff_ne] at h1 h2
    obtain ⟨h1a, h1b⟩ := h1
    rcases h2 with h2 | ⟨rfl, h2⟩
    · exact absurd h2 h1a
    · have h1c : Op.bytesLess k x = false := h1b.resolve_left (fun h => h rfl)
      rw [next_key h1c h2]
theorem key_next : ∀ a : List UInt8, Op.bytesLess a (a ++ [0]) = true
  | [] => rfl
  | a :: x => by simp [Op.bytesLess, key_next x]
theorem ba_app (a b : List UInt8) : (⟨a.toArray⟩ ++ ⟨b.toArray⟩ : ByteArray) = ⟨(a ++ b).toArray⟩ := by
  apply ByteArray.ext
  simp [ByteArray.data_append]

/-- A note's keys: from, below, whether they are bounded. -/
def spF (y : RdT) : List UInt8 := if y.kind = 1 then y.lo else if y.kind = 2 then y.lo else []
def spT (y : RdT) : List UInt8 := if y.kind = 1 then y.lo ++ [0] else if y.kind = 2 then y.hi else []
def spB (y : RdT) : Bool := if y.kind = 1 then true else if y.kind = 2 then !y.hi.isEmpty else false
def coversB (a b : RdT) : Bool := (Op.bytesLess (spF a) (spF b) || spF a == spF b) && (!spB a || spB b && (Op.bytesLess (spT b) (spT a) || spT b == spT a))

set_option maxRecDepth 20000 in
set_option maxHeartbeats 2000000 in
theorem may88 (w : World) (y : RdT) (h : RdOk y) : Calls Tryz.prog 88 #[rdV y] w fun e w' => e = .returned (.bool true) ∧ Fr (fun _ => False) w w' := by
  obtain ⟨kind, lo, hi⟩ := y
  obtain ⟨hk, hl⟩ := h
  unfold rdV
  simp only at hk hl ⊢
  rcases hk with ⟨rfl, rfl⟩ | ⟨rfl, h | h⟩ | ⟨rfl, rfl, rfl⟩
  · go_enter Tryz.func88, Tryz.ntmps88
    go_wp2
    all_goals go_ret
    all_goals exact ⟨rfl, (Fr.refl _ w).alloc _⟩
  · subst h
    go_enter Tryz.func88, Tryz.ntmps88
    go_wp2
    all_goals go_ret
    all_goals exact ⟨rfl, (Fr.refl _ w).alloc _⟩
  · go_enter Tryz.func88, Tryz.ntmps88
    go_wp2
    all_goals go_ret
    all_goals exact ⟨by simp [*], (Fr.refl _ w).alloc _⟩
  · go_enter Tryz.func88, Tryz.ntmps88
    go_wp2
    all_goals go_ret
    all_goals exact ⟨rfl, (Fr.refl _ w).alloc _⟩

set_option maxRecDepth 20000 in
set_option maxHeartbeats 2000000 in
theorem span122 (w : World) (y : RdT) (h : RdOk y) : Calls Tryz.prog 122 #[rdV y] w fun e w' => e = .returned (.tuple #[.string ⟨(spF y).toArray⟩, .string ⟨(spT y).toArray⟩, .bool (spB y)]) ∧ Fr (fun _ => False) w w' := by
  obtain ⟨kind, lo, hi⟩ := y
  obtain ⟨hk, hl⟩ := h
  unfold rdV spF spT spB
  simp only at hk hl ⊢
  rcases hk with ⟨rfl, rfl⟩ | ⟨rfl, h⟩ | ⟨rfl, rfl, rfl⟩
  · have hsz : lo.length + 1 ≤ maxLen := by simp only [maxLen]; omega
    go_enter Tryz.func122, Tryz.ntmps122
    go_wp2_with fail
    go_region
    all_goals
      go_wp2
      go_ret3
      exact ⟨by simp [ba_app lo [0]], ((Fr.refl _ w).alloc _).drew⟩
  · clear h
    go_enter Tryz.func122, Tryz.ntmps122
    go_wp2_with fail
    go_region
    all_goals
      go_wp2
      go_ret3
      exact ⟨by simp, ((Fr.refl _ w).alloc _).drew⟩
  · go_enter Tryz.func122, Tryz.ntmps122
    go_wp2
    go_ret3
    exact ⟨by simp, (Fr.refl _ w).alloc _⟩

set_option maxRecDepth 20000 in
set_option maxHeartbeats 2000000 in
theorem covers90 (w : World) (x y : RdT) (hx : RdOk x) (hy : RdOk y) : Calls Tryz.prog 90 #[rdV x, rdV y] w fun e w' => e = .returned (.bool (coversB x y)) ∧ Fr (fun _ => False) w w' := by
  have HX := Lib.hid (fun W => span122 W x hx)
  have HY := Lib.hid (fun W => span122 W y hy)
  unfold coversB
  unfold rdV at HX HY ⊢
  generalize spF x = fx at HX ⊢
  generalize spT x = tx at HX ⊢
  generalize spB x = bx at HX ⊢
  generalize spF y = fy at HY ⊢
  generalize spT y = ty at HY ⊢
  generalize spB y = b_y at HY ⊢
  have F0 : ∀ a b, Fr (fun _ => False) w ((w.alloc a).alloc b) := fun a b => ((Fr.refl _ w).alloc _).alloc _
  clear hx hy
  go_enter Tryz.func90, Tryz.ntmps90
  go_wp2_with fail
  refine (HX.out _).mono ?_
  rintro e w1 ⟨rfl, f1⟩
  have r1 : rowOf w1 (w.heap.size + 1) = #[.string ⟨#[116]⟩, .int .i64 y.kind, .string ⟨y.lo.toArray⟩, .string ⟨y.hi.toArray⟩] := (f1.row (by simp) (fun e => e)).trans (by simp [go_sem])
  have FX := Lib.hid ((F0 _ _).trans f1 (fun _ _ h => h))
  clear f1
  go_wp2_with fail
  refine (HY.out _).mono ?_
  rintro e w2 ⟨rfl, f2⟩
  have FY := Lib.hid (FX.out.trans f2 (fun _ _ h => h))
  clear f2 r1
  cases bx <;> cases b_y <;>
  · go_wp2
    all_goals go_ret
    all_goals exact ⟨by simp_all, FY.out⟩
end Go.Proofs.YteldfmgjbgedaaaGreat

namespace Go.Proofs.YteldfmgjbgedaaaGreat
open Go.RowKit Go.Maps

/-- Whether a key is one of a note's. -/
def covK (y : RdT) (k : Key) : Bool := if y.kind = 1 then y.lo == k else if y.kind = 2 then (Op.bytesLess y.lo k || y.lo == k) && (y.hi.isEmpty || Op.bytesLess k y.hi) else true

theorem nil_least (k : Key) : Op.bytesLess k [] = false := by cases k <;> rfl
theorem covK_span {y : RdT} (h : RdOk y) (k : Key) : covK y k = (!Op.bytesLess k (spF y) && (!spB y || Op.bytesLess k (spT y))) := by
  obtain ⟨kind, lo, hi⟩ := y
  obtain ⟨hk, hl⟩ := h
  unfold covK spF spT spB
  simp only at hk ⊢
  rcases hk with ⟨rfl, rfl⟩ | ⟨rfl, h⟩ | ⟨rfl, rfl, rfl⟩
  · simp only [if_true, Bool.not_true, Bool.false_or]
    by_cases e : lo = k
    · subst e; simp [lt_irrefl, key_next]
    · have : (lo == k) = false := by simp [e]
      rw [this]
      symm
      cases h1 : Op.bytesLess k lo with
      | true => rfl
      | false =>
        cases h2 : Op.bytesLess k (lo ++ [0]) with
        | false => rfl
        | true => exact absurd (next_key h1 h2).symm e
  · simp [le_eq]
  · simp [nil_least]

theorem covers_sound {a b : RdT} (ha : RdOk a) (hb : RdOk b) (h : coversB a b = true) (k : Key) (hk : covK b k = true) : covK a k = true := by
  rw [covK_span ha]
  rw [covK_span hb] at hk
  unfold coversB at h
  rw [le_eq, le_eq] at h
  simp only [Bool.and_eq_true, Bool.not_eq_true', Bool.or_eq_true] at h hk ⊢
  obtain ⟨h1, h2⟩ := h
  obtain ⟨k1, k2⟩ := hk
  refine ⟨le_le h1 k1, ?_⟩
  rcases h2 with h2 | ⟨h2, h3⟩
  · exact .inl h2
  · rcases k2 with k2 | k2
    · rw [h2] at k2; cases k2
    · exact .inr (lt_le k2 h3)

theorem rdC_row (y : RdT) : rdV y = .agg (rdC y) := rfl

set_option maxRecDepth 20000 in
set_option maxHeartbeats 2000000 in
theorem note89 (W : World) (b : Nat) (x y : RdT) (hx : RdOk x) (hy : RdOk y) (h : rowOf W b = rdC x) (l : live W b = true) : Calls Tryz.prog 89 #[rdV y, .pointer (some ⟨b, 0, none⟩)] W fun e w' => e = .returned (.bool (coversB y x)) ∧ Fr (fun _ => False) W w' := by
  have HC := Lib.hid (fun W => covers90 W y x hy hx)
  have e1 := live_lt l
  unfold rdC strV at h
  unfold rdV at HC ⊢
  generalize coversB y x = r at HC ⊢
  go_enter Tryz.func89, Tryz.ntmps89
  go_wp2_with (go_at_call 90; refine (HC.out _).mono ?_; rintro e w1 ⟨rfl, f1⟩)
  go_ret
  exact ⟨rfl, ((Fr.refl (fun _ => False) W).alloc _).trans f1 (fun _ _ h => h)⟩

set_option maxRecDepth 20000 in
set_option maxHeartbeats 2000000 in
theorem note93 (W : World) (b : Nat) (x y : RdT) (hx : RdOk x) (hy : RdOk y) (h : rowOf W b = rdC x) (l : live W b = true) : Calls Tryz.prog 93 #[rdV y, .pointer (some ⟨b, 0, none⟩)] W fun e w' => e = .returned (.bool (coversB x y)) ∧ Fr (fun _ => False) W w' := by
  have HC := Lib.hid (fun W => covers90 W x y hx hy)
  have e1 := live_lt l
  unfold rdC strV at h
  unfold rdV at HC ⊢
  generalize coversB x y = r at HC ⊢
  go_enter Tryz.func93, Tryz.ntmps93
  go_wp2_with (go_at_call 90; refine (HC.out _).mono ?_; rintro e w1 ⟨rfl, f1⟩)
  go_ret
  exact ⟨rfl, ((Fr.refl (fun _ => False) W).alloc _).trans f1 (fun _ _ h => h)⟩

set_option maxRecDepth 20000 in
set_option maxHeartbeats 2000000 in
theorem holds63 (W : World) (y : RdT) (hy : RdOk y) (k : Key) : Calls Tryz.prog 63 #[rdV y, .string ⟨k.toArray⟩] W fun e w' => e = .returned (.bool (covK y k)) ∧ Fr (fun _ => False) W w' := by
  obtain ⟨kind, lo, hi⟩ := y
  obtain ⟨hk, hl⟩ := hy
  unfold rdV covK
  simp only at hk hl ⊢
  rcases hk with ⟨rfl, rfl⟩ | ⟨rfl, h⟩ | ⟨rfl, rfl, rfl⟩
  · go_enter Tryz.func63, Tryz.ntmps63
    go_wp2
    all_goals go_ret
    all_goals exact ⟨by simp, (Fr.refl _ W).alloc _⟩
  · clear h
    go_enter Tryz.func63, Tryz.ntmps63
    go_wp2
    all_goals go_ret
    all_goals exact ⟨by simp_all, (Fr.refl _ W).alloc _⟩
  · go_enter Tryz.func63, Tryz.ntmps63
    go_wp2
    all_goals go_ret
    all_goals exact ⟨by simp, (Fr.refl _ W).alloc _⟩

set_option maxRecDepth 20000 in
set_option maxHeartbeats 2000000 in
theorem readers62 (W : World) (b : Nat) (x y : RdT) (hy : RdOk y) (h : rowOf W b = rdC x) (l : live W b = true) : Calls Tryz.prog 62 #[rdV y, .pointer (some ⟨b, 0, none⟩)] W fun e w' => e = .returned (.bool (covK y x.lo)) ∧ Fr (fun _ => False) W w' := by
  have HC := Lib.hid (fun W => holds63 W y hy x.lo)
  have e1 := live_lt l
  unfold rdC strV at h
  unfold rdV at HC ⊢
  generalize covK y x.lo = r at HC ⊢
  go_enter Tryz.func62, Tryz.ntmps62
  go_wp2_with (go_at_call 63; refine (HC.out _).mono ?_; rintro e w1 ⟨rfl, f1⟩)
  go_ret
  exact ⟨rfl, ((Fr.refl (fun _ => False) W).alloc _).trans f1 (fun _ _ h => h)⟩
end Go.Proofs.YteldfmgjbgedaaaGreat
