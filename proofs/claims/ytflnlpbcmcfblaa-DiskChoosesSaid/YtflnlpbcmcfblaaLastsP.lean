/-
  What lasts: the plain law of DiskLasts.
-/
import Derived.Test.YtflnlpbcmcfblaaWrites
namespace Go.Proofs.Ytflnlpbcmcfblaa
open Go.RowKit

theorem snocRec {α : Type} {P : List α → Prop} (h0 : P []) (h1 : ∀ l x, P l → P (l ++ [x])) : ∀ l, P l := by
  have key : ∀ l : List α, P l.reverse := by
    intro l
    induction l with
    | nil => exact h0
    | cons x l ih => rw [List.reverse_cons]; exact h1 _ _ ih
  intro l
  have := key l.reverse
  rwa [List.reverse_reverse] at this

theorem lastOf_snoc (l : List (Nat × List UInt8)) (q : Nat × List UInt8) (i : Nat) : DS.lastOf (l ++ [q]) i = if q.1 = i then some q.2 else DS.lastOf l i := by
  unfold DS.lastOf
  rw [List.reverse_append]
  by_cases h : q.1 = i
  · simp [h]
  · simp [h]

theorem lastOf_nil (i : Nat) : DS.lastOf [] i = none := rfl

theorem wPend_snoc (n : Nat) (l : List OpV) (o : OpV) : wPend n (l ++ [o]) = wPend n l ++ (if o.isW n then [(o.n.toNat, o.data)] else []) := by
  unfold wPend
  rw [List.filter_append, List.map_append]
  by_cases h : o.isW n = true <;> simp [h]

theorem isW_lt {n : Nat} {o : OpV} (h : o.isW n = true) : o.n.toNat < n ∧ o.data.length = 64 := by
  simp only [OpV.isW, Bool.and_eq_true, decide_eq_true_eq, beq_iff_eq] at h
  omega

theorem lastAll_get (n : Nat) (l : List OpV) (i : Nat) (hi : i < n) : (lastAll n l)[i]? = some (DS.lastOf (wPend n l) i) := by
  refine snocRec (P := fun l => (lastAll n l)[i]? = some (DS.lastOf (wPend n l) i)) ?_ ?_ l
  · simp [lastAll, wPend, DS.lastOf, hi]
  · intro l o ih
    have e : lastAll n (l ++ [o]) = last1 n (lastAll n l) o := by unfold lastAll; rw [List.foldl_append]; rfl
    rw [e, wPend_snoc]
    unfold last1
    by_cases h : o.isW n = true
    · rw [if_pos h, if_pos h, lastOf_snoc]
      by_cases hi2 : o.n.toNat = i
      · rw [if_pos hi2, hi2]
        simp [lastAll_len, hi]
      · rw [if_neg hi2, List.getElem?_set_ne hi2, ih]
    · rw [if_neg h, if_neg h, List.append_nil, ih]

theorem layAll_snoc (S : DS) (l : List (Nat × List UInt8)) (q : Nat × List UInt8) : S.layAll (l ++ [q]) = (S.layAll l).lay q := by unfold DS.layAll; rw [List.foldl_append]; rfl

theorem layAll_data (S : DS) (l : List (Nat × List UInt8)) (i : Nat) (hi : i < S.data.length) : (S.layAll l).data[i]? = match DS.lastOf l i with | some b => some b | none => S.data[i]? := by
  refine snocRec (P := fun l => (S.layAll l).data[i]? = match DS.lastOf l i with | some b => some b | none => S.data[i]?) ?_ ?_ l
  · rfl
  · intro l q ih
    rw [layAll_snoc, lastOf_snoc]
    have hl := (layAll_fields l S).2.2.2.2.2.2.1
    by_cases h : q.1 = i
    · rw [if_pos h]
      simp only [DS.lay, h]
      rw [List.getElem?_set_self (by rw [hl]; exact hi)]
    · rw [if_neg h]
      simp only [DS.lay]
      rw [List.getElem?_set_ne h, ih]

theorem layAll_torn (S : DS) (l : List (Nat × List UInt8)) (i : Nat) (hi : i < S.torn.length) : (S.layAll l).torn[i]? = match DS.lastOf l i with | some _ => some false | none => S.torn[i]? := by
  refine snocRec (P := fun l => (S.layAll l).torn[i]? = match DS.lastOf l i with | some _ => some false | none => S.torn[i]?) ?_ ?_ l
  · rfl
  · intro l q ih
    rw [layAll_snoc, lastOf_snoc]
    have hl := (layAll_fields l S).2.2.2.2.2.2.2
    by_cases h : q.1 = i
    · rw [if_pos h]
      simp only [DS.lay, h]
      rw [List.getElem?_set_self (by rw [hl]; exact hi)]
    · rw [if_neg h]
      simp only [DS.lay]
      rw [List.getElem?_set_ne h, ih]

theorem keepOne_other (S : DS) (x : (Nat × List UInt8) × Int) (i : Nat) (h : x.1.1 ≠ i) : (S.keepOne x).data[i]? = S.data[i]? ∧ (S.keepOne x).torn[i]? = S.torn[i]? := by
  unfold DS.keepOne
  split
  · simp [DS.lay, List.getElem?_set_ne h]
  · split
    · simp [List.getElem?_set_ne h]
    · exact ⟨rfl, rfl⟩

theorem keepAll_other (l : List ((Nat × List UInt8) × Int)) (i : Nat) : ∀ (S : DS), (∀ x ∈ l, x.1.1 ≠ i) → (S.keepAll l).data[i]? = S.data[i]? ∧ (S.keepAll l).torn[i]? = S.torn[i]? := by
  induction l with
  | nil => intro S _; exact ⟨rfl, rfl⟩
  | cons x l ih =>
    intro S h
    have h1 := keepOne_other S x i (h x (List.mem_cons_self ..))
    have h2 := ih (S.keepOne x) (fun y hy => h y (List.mem_cons_of_mem _ hy))
    exact ⟨h2.1.trans h1.1, h2.2.trans h1.2⟩

theorem lastOf_none_ne {l : List (Nat × List UInt8)} {i : Nat} (h : DS.lastOf l i = none) : ∀ q ∈ l, q.1 ≠ i := by
  intro q hq e
  unfold DS.lastOf at h
  rw [Option.map_eq_none_iff, List.find?_eq_none] at h
  exact h q (List.mem_reverse.2 hq) (by simp [e])

theorem sync_ok {S : DS} (ho : S.off = false) (hp : S.pl = false) (hn : 0 < S.data.length) : S.sync = (0, { S.layAll S.pend with pend := [], sy := wrap64 (S.sy + 1) }) := by
  have hr : S.ready 0 = 0 := readyI_zero.2 ⟨ho, by omega, by omega⟩
  have hg : S.goesB = true := by simp [DS.goesB, goesB, hp]
  have hg2 : S.goes = S := by cases S; simp_all [DS.goes, goesOff, goesPl, goesLeft]
  unfold DS.sync
  rw [if_neg (by rw [hr]; simp), if_neg (by rw [hg]; simp), hg2]

theorem crash_good {S : DS} {K : List Int} (hl : K.length ≤ S.pend.length) (hk : ∀ k ∈ K, 0 ≤ k ∧ k ≤ 2) : S.crash K = (0, { S.keepAll (S.pend.zip K) with pend := [], off := false, pl := false, left := 0 }) := by
  unfold DS.crash
  rw [if_neg (by omega), if_neg (by simpa using hk)]
  rfl
theorem crash_worse {S : DS} {K : List Int} (hk : ¬ (∀ k ∈ K, 0 ≤ k ∧ k ≤ 2)) : (S.crash K).1 = 1 := by
  unfold DS.crash
  by_cases h : S.pend.length < K.length
  · rw [if_pos h]
  · rw [if_neg h, if_pos hk]

/-- The disk when the first script is synced. -/
def lastS2 (n : Nat) (A : List OpV) : DS := ((DS.new n).wAll A).sync.2

theorem lastS2_fields (n : Nat) (hn : 0 < n) (A : List OpV) : ((DS.new n).wAll A).sync.1 = 0 ∧ (lastS2 n A).pend = [] ∧ (lastS2 n A).off = false ∧ (lastS2 n A).pl = false ∧ (lastS2 n A).data.length = n ∧
    ∀ i, i < n → (lastS2 n A).data[i]? = some ((DS.lastOf (wPend n A) i).getD zeros64) ∧ (lastS2 n A).torn[i]? = some false := by
  obtain ⟨w1, w2, w3, w4, w5, w6, w7⟩ := wAll_fields A (DS.new n) rfl rfl
  have hd : (DS.new n).data.length = n := by simp [DS.new]
  have ht : (DS.new n).torn.length = n := by simp [DS.new]
  rw [hd] at w7
  have hs := sync_ok w1 w2 (by rw [w3, hd]; exact hn)
  have e : (lastS2 n A) = { ((DS.new n).wAll A).layAll ((DS.new n).wAll A).pend with pend := [], sy := wrap64 (((DS.new n).wAll A).sy + 1) } := by unfold lastS2; rw [hs]
  have hp : ((DS.new n).wAll A).pend = wPend n A := by rw [w7]; rfl
  obtain ⟨l1, l2, l3, l4, l5, l6, l7, l8⟩ := layAll_fields ((DS.new n).wAll A).pend ((DS.new n).wAll A)
  refine ⟨by rw [hs], by rw [e], by rw [e]; exact l2.trans w1, by rw [e]; exact l3.trans w2, by rw [e]; exact l7.trans (by rw [w3, hd]), fun i hi => ?_⟩
  rw [e]
  simp only
  rw [layAll_data _ _ i (by rw [w3, hd]; exact hi), layAll_torn _ _ i (by rw [w4, ht]; exact hi), hp, w3, w4]
  cases DS.lastOf (wPend n A) i with
  | some b => exact ⟨rfl, rfl⟩
  | none => simp [DS.new, hi]

theorem lasts_read (n : Nat) (hn : 0 < n) (A B : List OpV) (K : List Int) (hl : K.length ≤ ((lastS2 n A).wAll B).pend.length) (hk : ∀ k ∈ K, 0 ≤ k ∧ k ≤ 2) (i : Nat) (hi : i < n) (hB : DS.lastOf (wPend n B) i = none) :
    (((lastS2 n A).wAll B).crash K).2.read i = (0, some ((DS.lastOf (wPend n A) i).getD zeros64)) := by
  obtain ⟨a1, a2, a3, a4, a5, a6⟩ := lastS2_fields n hn A
  obtain ⟨w1, w2, w3, w4, w5, w6, w7⟩ := wAll_fields B (lastS2 n A) a3 a4
  rw [a2, a5, List.nil_append] at w7
  rw [crash_good hl hk]
  have hne := lastOf_none_ne hB
  obtain ⟨k1, k2⟩ := keepAll_other (((lastS2 n A).wAll B).pend.zip K) i ((lastS2 n A).wAll B) (fun x hx => hne x.1 (by rw [← w7]; exact (List.of_mem_zip (show (x.1, x.2) ∈ _ from hx)).1))
  obtain ⟨f1, f2, f3, f4⟩ := keepAll_fields (((lastS2 n A).wAll B).pend.zip K) ((lastS2 n A).wAll B)
  rw [w3] at k1 f4
  rw [w4] at k2
  obtain ⟨b1, b2⟩ := a6 i hi
  unfold DS.read
  rw [if_neg]
  · simp only [Int.toNat_natCast]
    rw [lastOf_nil]
    simp only
    rw [k2, b2, k1, b1]
    rfl
  · have : DS.ready { ((lastS2 n A).wAll B).keepAll (((lastS2 n A).wAll B).pend.zip K) with pend := [], off := false, pl := false, left := 0 } (i : Int) = 0 := readyI_zero.2 ⟨rfl, by omega, by simp only; rw [f4, a5]; omega⟩
    rw [this]; simp

end Go.Proofs.Ytflnlpbcmcfblaa
