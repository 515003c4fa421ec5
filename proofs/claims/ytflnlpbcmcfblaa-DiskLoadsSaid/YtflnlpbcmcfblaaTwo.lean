/-
  A disk and the reference's disk, side by side, through a law.
-/
import Derived.Test.YtflnlpbcmcfblaaImages
import Derived.Test.YtflnlpbcmcfblaaLastsM
namespace Go.Proofs.Ytflnlpbcmcfblaa
open Go.RowKit

structure Two (w0 w : World) (p : DP) (D : DS) (f : Nat → Prop) (r gd gt : Nat) (R : DS) : Prop where
  d : St w0 w p D
  r : RRep w f r gd gt R
  fr : ∀ k, f k → w0.heap.size ≤ k ∧ ¬ p.foot k

section
variable {w0 w wj : World} {p p' : DP} {D D' : DS} {f f' : Nat → Prop} {r gd gt : Nat} {R R' : DS}

theorem Two.calm (h : Two w0 w p D f r gd gt R) {F : Nat → Prop} (hf : Fr F w wj) (hF : ∀ k, F k → w0.heap.size ≤ k ∧ ¬ p.foot k ∧ ¬ f k) : Two w0 wj p D f r gd gt R :=
  ⟨h.d.calm hf (fun k hk => ⟨(hF k hk).1, (hF k hk).2.1⟩), h.r.keep hf (fun k hk e => (hF k e).2.2 hk), h.fr⟩
theorem Two.still (h : Two w0 w p D f r gd gt R) (hf : Fr (fun _ => False) w wj) : Two w0 wj p D f r gd gt R := h.calm hf (fun _ h => h.elim)
theorem Two.moveD (h : Two w0 w p D f r gd gt R) (m : Moves p.foot p'.foot w wj) (rep : DiskRep wj p' D') : Two w0 wj p' D' f r gd gt R :=
  ⟨h.d.move m rep, h.r.keep m.fr (fun k hk => (h.fr k hk).2), fun k hk => ⟨(h.fr k hk).1, fun e => (m.new k e).elim (h.fr k hk).2 (fun e => by have := h.r.lt' k hk; omega)⟩⟩
theorem Two.moveR (h : Two w0 w p D f r gd gt R) (m : Moves f f' w wj) (rep : RRep wj f' r gd gt R') : Two w0 wj p D f' r gd gt R' :=
  ⟨h.d.calm m.fr h.fr, rep, fun k hk => (m.new k hk).elim (h.fr k) (fun e => ⟨by have := h.d.fr.size; omega, fun e2 => by have := h.d.lt e2; omega⟩)⟩

/-- A block beside both. -/
structure Aside (w : World) (p : DP) (f : Nat → Prop) (b : Nat) (row : Array Value) : Prop where
  lt : b < w.heap.size
  nd : ¬ p.foot b
  nf : ¬ f b
  row : rowOf w b = row

theorem Aside.moveD {b : Nat} {row : Array Value} (h : Aside w p f b row) (m : Moves p.foot p'.foot w wj) : Aside wj p' f b row :=
  ⟨Nat.lt_of_lt_of_le h.lt m.fr.size, fun e => (m.new b e).elim h.nd (fun e => by have := h.lt; omega), h.nf, by rw [m.fr.row h.lt h.nd]; exact h.row⟩
theorem Aside.moveR {b : Nat} {row : Array Value} (h : Aside w p f b row) (m : Moves f f' w wj) : Aside wj p f' b row :=
  ⟨Nat.lt_of_lt_of_le h.lt m.fr.size, h.nd, fun e => (m.new b e).elim h.nf (fun e => by have := h.lt; omega), by rw [m.fr.row h.lt h.nf]; exact h.row⟩
theorem Aside.still {b : Nat} {row : Array Value} (h : Aside w p f b row) (m : Fr (fun _ => False) w wj) : Aside wj p f b row :=
  ⟨Nat.lt_of_lt_of_le h.lt m.size, h.nd, h.nf, by rw [m.row h.lt (fun h => h)]; exact h.row⟩

/-- Write to the disk. -/
theorem two_writeD (h : Two w0 w p D f r gd gt R) (n : Int) (va : Value) (b : List UInt8) (hv : BytesAt w0 va b) (hm : D.pend.length ≤ 2199023255552) :
    Calls Try.prog 27 #[.pointer (some ⟨p.d, 0, none⟩), .int .i64 n, va] w fun e w' => ∃ p', p'.d = p.d ∧ e = .returned (.int .i64 (D.write n b).1) ∧ Two w0 w' p' (D.write n b).2 f r gd gt R ∧ Moves p.foot p'.foot w w' := by
  by_cases hl : b.length = 64
  · refine (write_any w p D h.d.rep n va b (hv.later h.d.fr) (fun k hk hf => ?_) hm).mono ?_
    · have h1 := h.d.foot _ hf
      have h2 := hv.own_lt (by intro e; rw [e] at hl; simp at hl) hk
      omega
    · rintro e w' ⟨p', e1, rfl, h2, m⟩
      exact ⟨p', e1, rfl, h.moveD m h2, m⟩
  · obtain ⟨a, cap, rfl, _⟩ := hv
    by_cases h1 : D.ready n ≠ 0
    · refine (write_bad1 w p D h.d.rep n _ h1).mono ?_
      rintro e w' ⟨rfl, rfl⟩
      have e1 : D.write n b = (D.ready n, D) := by unfold DS.write; rw [if_pos h1]
      rw [e1]
      exact ⟨p, rfl, rfl, h, Moves.refl _ _⟩
    · refine (write_bad2 w p D h.d.rep n a b.length cap (Classical.byContradiction h1) hl).mono ?_
      rintro e w' ⟨rfl, rfl⟩
      have e1 : D.write n b = (21, D) := by unfold DS.write; rw [if_neg h1, if_pos hl]
      rw [e1]
      exact ⟨p, rfl, rfl, h, Moves.refl _ _⟩

/-- Write to the reference. -/
theorem two_writeR (h : Two w0 w p D f r gd gt R) (n : Int) (va : Value) (b : List UInt8) (hv : BytesAt w0 va b) (hm : R.pend.length ≤ 2199023255552) :
    Calls Try.prog 33 #[.pointer (some ⟨r, 0, none⟩), .int .i64 n, va] w fun e w' => e = .returned (.int .i64 (R.write n b).1) ∧ ∃ f', Two w0 w' p D f' r gd gt (R.write n b).2 ∧ Moves f f' w w' := by
  by_cases hl : b.length = 64
  · refine (rwrite_any w f r gd gt R h.r n va b (hv.later h.d.fr) (fun k hk hf => ?_) hm).mono ?_
    · have h1 := (h.fr _ h.r.fr).1
      have h2 := hv.own_lt (by intro e; rw [e] at hl; simp at hl) hk
      omega
    · rintro e w' ⟨rfl, f', h2, m⟩
      exact ⟨rfl, f', h.moveR m h2, m⟩
  · obtain ⟨a, cap, rfl, _⟩ := hv
    by_cases h1 : R.ready n ≠ 0
    · refine (rwrite_bad1 w f r gd gt R h.r n _ h1).mono ?_
      rintro e w' ⟨rfl, rfl⟩
      have e1 : R.write n b = (R.ready n, R) := by unfold DS.write; rw [if_pos h1]
      rw [e1]
      exact ⟨rfl, f, h, Moves.refl _ _⟩
    · refine (rwrite_bad2 w f r gd gt R h.r n a b.length cap (Classical.byContradiction h1) hl).mono ?_
      rintro e w' ⟨rfl, rfl⟩
      have e1 : R.write n b = (21, R) := by unfold DS.write; rw [if_neg h1, if_pos hl]
      rw [e1]
      exact ⟨rfl, f, h, Moves.refl _ _⟩

theorem two_syncD (h : Two w0 w p D f r gd gt R) :
    Calls Try.prog 21 #[.pointer (some ⟨p.d, 0, none⟩)] w fun e w' => ∃ p', p'.d = p.d ∧ e = .returned (.int .i64 D.sync.1) ∧ Two w0 w' p' D.sync.2 f r gd gt R ∧ Moves p.foot p'.foot w w' := by
  refine (sync_any w p D h.d.rep).mono ?_
  rintro e w' ⟨p', e1, rfl, h2, m⟩
  exact ⟨p', e1, rfl, h.moveD m h2, m⟩
theorem two_syncR (h : Two w0 w p D f r gd gt R) :
    Calls Try.prog 34 #[.pointer (some ⟨r, 0, none⟩)] w fun e w' => e = .returned (.int .i64 R.sync.1) ∧ ∃ f', Two w0 w' p D f' r gd gt R.sync.2 ∧ Moves f f' w w' := by
  refine (rsync_any w f r gd gt R h.r).mono ?_
  rintro e w' ⟨rfl, f', h2, m⟩
  exact ⟨rfl, f', h.moveR m h2, m⟩

theorem two_crashD (h : Two w0 w p D f r gd gt R) (vk : Value) (l : List Int) (hk : IntsAt w0 vk l) :
    Calls Try.prog 23 #[.pointer (some ⟨p.d, 0, none⟩), vk] w fun e w' => ∃ p', p'.d = p.d ∧ e = .returned (.int .i64 (D.crash l).1) ∧ Two w0 w' p' (D.crash l).2 f r gd gt R ∧ Moves p.foot p'.foot w w' := by
  refine (crash_any2 w0 w p D h.d vk l hk).mono ?_
  rintro e w' ⟨p', e1, rfl, h2, m⟩
  exact ⟨p', e1, rfl, h.moveD m h2.rep, m⟩

theorem two_planD (h : Two w0 w p D f r gd gt R) (n : Int) (hn : n ≤ 9223372036854775807) :
    Calls Try.prog 32 #[.pointer (some ⟨p.d, 0, none⟩), .int .i64 n] w fun e w' => e = .returned (.int .i64 (D.plan n).1) ∧ Two w0 w' p (D.plan n).2 f r gd gt R ∧ Moves p.foot p.foot w w' := by
  refine (plan_rep w p D h.d.rep n hn).mono ?_
  rintro e w' ⟨rfl, h2, m⟩
  have m2 : Moves p.foot p.foot w w' := ⟨m.mono (fun _ _ e => .inl e), fun _ h => .inl h⟩
  exact ⟨rfl, h.moveD m2 h2, m2⟩
theorem two_planR (h : Two w0 w p D f r gd gt R) (n : Int) (hn : n ≤ 9223372036854775807) :
    Calls Try.prog 76 #[.pointer (some ⟨r, 0, none⟩), .int .i64 n] w fun e w' => e = .returned (.int .i64 (R.plan n).1) ∧ Two w0 w' p D f r gd gt (R.plan n).2 ∧ Moves f f w w' := by
  refine (rplan_any w f r gd gt R h.r n hn).mono ?_
  rintro e w' ⟨rfl, h2, m⟩
  have m2 : Moves f f w w' := ⟨m.mono (fun k _ e => by rw [e]; exact h.r.fr), fun _ h => .inl h⟩
  exact ⟨rfl, h.moveR m2 h2, m2⟩

theorem IntsAt.nilv (w : World) (a : Option Addr) (cap : Nat) : IntsAt w (.slice a 0 cap) [] := ⟨a, cap, rfl, by simp, .inl rfl⟩

theorem two_crashR (h : Two w0 w p D f r gd gt R) (vk : Value) (l : List Int) (hk : IntsAt w0 vk l) :
    Calls Try.prog 35 #[.pointer (some ⟨r, 0, none⟩), vk] w fun e w' => e = .returned (.int .i64 (R.crash l).1) ∧ ∃ f', Two w0 w' p D f' r gd gt (R.crash l).2 ∧ Moves f f' w w' := by
  obtain ⟨a, cap, rfl, hx⟩ := id hk
  by_cases h1 : R.pend.length < l.length
  · refine (rcrash_bad1 w f r gd gt R h.r a l.length cap h1).mono ?_
    rintro e w' ⟨rfl, rfl⟩
    have e1 : R.crash l = (1, R) := by unfold DS.crash; rw [if_pos h1]
    rw [e1]
    exact ⟨rfl, f, h, Moves.refl _ _⟩
  · by_cases h2 : ∀ k ∈ l, 0 ≤ k ∧ k ≤ 2
    · have e1 : R.crash l = (0, { R.keepAll (R.pend.zip l) with pend := [], off := false, pl := false, left := 0 }) := by unfold DS.crash; rw [if_neg h1, if_neg (by simpa using h2)]; rfl
      refine (rcrash_ok w f r gd gt R h.r a cap l (fun w' hf => ?_) (by omega) h2).mono ?_
      · have hk2 := hk.later h.d.fr
        by_cases hl : l = []
        · subst hl; exact IntsAt.nilv w' a cap
        · refine hk2.keep hf (fun k hk3 e => ?_)
          have q1 := (h.fr k e).1
          have q2 := hk.own_lt hl hk3
          omega
      · rintro e w' ⟨rfl, f', h3, m⟩
        rw [e1]
        exact ⟨rfl, f', h.moveR m h3, m⟩
    · refine (rcrash_bad2 w f r gd gt R h.r a cap l (hk.later h.d.fr) (by omega) h2).mono ?_
      rintro e w' ⟨rfl, rfl⟩
      have e1 : R.crash l = (1, R) := by unfold DS.crash; rw [if_neg h1, if_pos h2]
      rw [e1]
      exact ⟨rfl, f, h, Moves.refl _ _⟩
end

end Go.Proofs.Ytflnlpbcmcfblaa
