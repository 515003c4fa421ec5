/-
  append of one element to a slice of the call's own.
  Package ssi: the transactions' map; Active.
  Package lock: the locks; Held, Release.
-/
import Derived.Test.YteldfmgjbgedaaaGreatMab
import Derived.Lib.SliceRun
import Derived.Deep.CutRange
import Derived.Test.YteldfmgjbgedaaaGreatPx
namespace Go.Proofs.YteldfmgjbgedaaaGreat
open Go.RowKit

theorem info_parts {P : Program} {e : TypeId} {z : Value} {size bytes : Nat} (h : (P.info? e).map (fun i => (i.zero, i.size, i.bytes)) = some (some z, size, bytes)) : ∃ i, P.info? e = some i ∧ i.zero = some z ∧ i.size = size ∧ i.bytes = bytes := by
  cases hi : P.info? e with
  | none => rw [hi] at h; cases h
  | some i =>
    rw [hi] at h
    simp only [Option.map_some, Option.some.injEq, Prod.mk.injEq] at h
    exact ⟨i, rfl, h.1, h.2.1, h.2.2⟩

/-- A type's row of the table. -/
def TI (e : TypeId) (z : Value) (size bytes : Nat) : Prop := (Tryz.prog.info? e).map (fun i => (i.zero, i.size, i.bytes)) = some (some z, size, bytes) ∧ z.cells.size = size ∧ 0 < size

theorem ti2 : TI 2 (.int .i64 0) 1 8 := ⟨by kernel_rfl, rfl, by omega⟩
theorem ti3 : TI 3 (.int .i64 0) 1 8 := ⟨by kernel_rfl, rfl, by omega⟩
theorem ti9 : TI 9 (.string ⟨#[]⟩) 1 16 := ⟨by kernel_rfl, rfl, by omega⟩
theorem ti66 : TI 66 (.agg #[.string ⟨#[]⟩, .string ⟨#[]⟩]) 2 32 := ⟨by kernel_rfl, rfl, by omega⟩
theorem ti92 : TI 92 (.pointer none) 1 8 := ⟨by kernel_rfl, rfl, by omega⟩
theorem ti104 : TI 104 (.agg #[.string ⟨#[]⟩, .int .i64 0, .string ⟨#[]⟩, .string ⟨#[]⟩]) 4 56 := ⟨by kernel_rfl, rfl, by omega⟩
theorem ti69 : TI 69 (.agg #[.int .i64 0, .bool false, .string ⟨#[]⟩, .int .i64 0]) 4 40 := ⟨by kernel_rfl, rfl, by omega⟩

/-- A slice of the call's own, element by element (nil, where it has none). -/
def OwnRows (w : World) (v : Value) (size : Nat) (xs : List (Array Value)) (base : Nat) : Prop :=
  (v = .slice none 0 0 ∧ xs = []) ∨
  ∃ g cap, v = .slice (some ⟨g, 0, none⟩) xs.length cap ∧ base ≤ g ∧ live w g = true ∧ (xs.length ≤ cap ∧ 0 < xs.length) ∧ cap ≤ maxLen ∧ (rowOf w g).size = cap * size ∧
    ∀ i (h : i < xs.length), cut (rowOf w g) (i * size) size = xs[i]

theorem OwnRows.nil (w : World) (size base : Nat) : OwnRows w (.slice none 0 0) size [] base := .inl ⟨rfl, rfl⟩

theorem OwnRows.lt {w : World} {v : Value} {size : Nat} {xs : List (Array Value)} {base : Nat} (h : OwnRows w v size xs base) {k : Nat} (hk : v.ownBlock = some k) : base ≤ k ∧ k < w.heap.size := by
  rcases h with ⟨rfl, _⟩ | ⟨g, cap, rfl, h1, h2, _⟩
  · cases hk
  · simp only [Value.ownBlock, Option.some.injEq] at hk; subst hk; exact ⟨h1, live_lt h2⟩

theorem OwnRows.keep {w w' : World} {v : Value} {size : Nat} {xs : List (Array Value)} {base : Nat} (h : OwnRows w v size xs base) {F : Nat → Prop} (hf : Fr F w w') (hF : ∀ k, v.ownBlock = some k → ¬ F k) : OwnRows w' v size xs base := by
  rcases h with ⟨rfl, h⟩ | ⟨g, cap, rfl, h1, h2, h3, h4, h5, h6⟩
  · exact .inl ⟨rfl, h⟩
  · have hg := live_lt h2
    exact .inr ⟨g, cap, rfl, h1, by rw [hf.liv hg (hF g rfl)]; exact h2, h3, h4, by rw [hf.row hg (hF g rfl)]; exact h5, by rw [hf.row hg (hF g rfl)]; exact h6⟩

theorem OwnRows.len {w : World} {v : Value} {size : Nat} {xs : List (Array Value)} {base : Nat} (h : OwnRows w v size xs base) : ∃ a c, v = .slice a xs.length c := by
  rcases h with ⟨rfl, rfl⟩ | ⟨g, cap, rfl, _⟩
  · exact ⟨_, _, rfl⟩
  · exact ⟨_, _, rfl⟩

theorem run_append_one {w : World} {t e : TypeId} {z : Value} {size bytes : Nat} (ty : TypeId) (ht : Tryz.prog.underlying t = some (.slice e)) (hti : TI e z size bytes) {v : Value} {xs : List (Array Value)} {base : Nat}
    (h : OwnRows w v size xs base) (hbase : base ≤ w.heap.size) (gx c1 : Nat) (x : Array Value) (hx : size ≤ (rowOf w gx).size) (hx2 : cut (rowOf w gx) 0 size = x) (h1 : ones x) (hxs : ∀ y ∈ xs, y.size = size)
    (hm : xs.length + 1 ≤ maxLen) (hfit : Builtin.nextslicecap (xs.length + 1) xs.length * bytes ≤ 281474976710656) :
    ∃ g' cap' w', (Builtin.append_ #[t, t] ty #[v, .slice (some ⟨gx, 0, none⟩) 1 c1]).run Tryz.prog w = .ok (.slice (some ⟨g', 0, none⟩) (xs.length + 1) cap') w' ∧
      OwnRows w' (.slice (some ⟨g', 0, none⟩) (xs.length + 1) cap') size (xs ++ [x]) base ∧ Fr (fun i => v.ownBlock = some i) w w' ∧ (v.ownBlock = some g' ∨ w.heap.size ≤ g') := by
  obtain ⟨hi0, hzs, hsz⟩ := hti
  obtain ⟨i, hi, hz, hsize, hby⟩ := info_parts hi0
  have hxsz : x.size = size := by rw [← hx2]; exact cut_size (by omega)
  obtain ⟨ys, hown, hys⟩ : ∃ ys, OwnSl w size v xs.length ys ∧ (∀ i (h : i < xs.length), cut ys.toArray (i * size) size = xs[i]) := by
    rcases h with ⟨rfl, rfl⟩ | ⟨g, cap, rfl, b1, b2, ⟨b3, b3p⟩, b4, b5, b6⟩
    · exact ⟨[], ⟨by simp, .inl ⟨rfl, rfl⟩⟩, fun i h => by simp at h⟩
    · have hc := Nat.mul_le_mul_right size b3
      refine ⟨(rowOf w g).toList.take (xs.length * size), ⟨by simp; omega, .inr ⟨g, cap, rfl, b2, b3, b4, b5, rfl⟩⟩, fun i h => ?_⟩
      have hi2 : i * size + size ≤ xs.length * size := by have := Nat.mul_le_mul_right size h; rw [Nat.succ_mul] at this; exact this
      rw [← b6 i h]
      refine cut_ext (cut_size (by omega)) (by simp; omega) (fun q hq => ?_)
      rw [cut_get (by omega) q hq]
      simp only [List.getElem?_toArray, List.getElem?_take]
      rw [if_pos (by omega)]; simp
  obtain ⟨v', w', hrun, ⟨hex, hfr⟩⟩ := run_append_row (P := Tryz.prog) w t ty e i z size bytes ht hi hz hsize hby hzs hsz v xs.length ys hown (some ⟨gx, 0, none⟩) 1 c1 x.toList (by simp [hxsz])
    (.inr ⟨_, rfl, fun j u hu => by
      have hj : j < size := by have := (List.getElem?_eq_some_iff.1 hu).1; simpa [hxsz] using this
      rw [Addr.add_lit, cell?_row, ← cut_get (by omega : 0 + size ≤ _) j hj, hx2]; simpa using hu⟩) (fun u hu => h1 u (by simpa using hu)) hm
    (fun cap c0 c2 => by obtain rfl : cap = xs.length := by omega
                         exact hfit)
  rcases hex with ⟨h0, _⟩ | ⟨g', cap', rfl, e1, e2, e3, e4, e5, e6⟩
  · omega
  · refine ⟨g', cap', w', hrun, .inr ⟨g', cap', by simp, ?_, e3, ⟨by simpa using e1, by simp⟩, e2, e4, ?_⟩, hfr, e6⟩
    · rcases e6 with e | e
      · exact (h.lt e).1
      · omega
    · intro j hj
      simp only [List.length_append, List.length_cons, List.length_nil, Nat.zero_add] at hj
      have hsize2 : (xs.length + 1) * size ≤ (rowOf w' g').size := by rw [e4]; exact Nat.mul_le_mul_right _ e1
      have hget : ∀ q, q < (xs.length + 1) * size → (rowOf w' g')[q]? = (ys ++ x.toList)[q]? := by
        intro q hq
        rw [← e5, List.getElem?_take, if_pos hq]; simp
      have hyl := hown.1
      rw [Nat.succ_mul] at hsize2
      by_cases hjl : j < xs.length
      · rw [List.getElem_append_left hjl, ← hys j hjl]
        have hj2 : j * size + size ≤ xs.length * size := by have := Nat.mul_le_mul_right size hjl; rw [Nat.succ_mul] at this; exact this
        refine cut_ext (cut_size (by simp [hyl]; omega)) (by omega) (fun q hq => ?_)
        rw [hget _ (by rw [Nat.succ_mul]; omega), cut_get (by simp [hyl]; omega) q hq, List.getElem?_append_left (by omega)]
        simp
      · obtain rfl : j = xs.length := by omega
        rw [List.getElem_append_right (by simp)]
        simp only [Nat.sub_self, List.getElem_cons_zero]
        refine cut_ext hxsz (by omega) (fun q hq => ?_)
        rw [hget _ (by rw [Nat.succ_mul]; omega), List.getElem?_append_right (by omega), hyl]
        simp

theorem wpList_append_one {w : World} {ops : Array Oper} {rest : List Oper} {o : Oper} {a : Act} {Q : Exit → Act → World → Prop} (hgd : o.guard = none) (s y : Operand) (t : TypeId)
    (ho : o.op = .call { callee := .builtin .append, args := #[s, y], argTypes := #[t, t] }) (e : TypeId) (z : Value) (size bytes : Nat) (ht : Tryz.prog.underlying t = some (.slice e)) (hti : TI e z size bytes)
    (v : Value) (xs : List (Array Value)) (base : Nat) (hs : a.eval s = v) (h : OwnRows w v size xs base) (hbase : base ≤ w.heap.size) (gx c1 : Nat) (hy : a.eval y = .slice (some ⟨gx, 0, none⟩) 1 c1)
    (x : Array Value) (hx : size ≤ (rowOf w gx).size) (hx2 : cut (rowOf w gx) 0 size = x) (h1 : ones x) (hxs : ∀ y ∈ xs, y.size = size)
    (hm : xs.length + 1 ≤ maxLen) (hfit : Builtin.nextslicecap (xs.length + 1) xs.length * bytes ≤ 281474976710656)
    (hK : ∀ g' cap' w', OwnRows w' (.slice (some ⟨g', 0, none⟩) (xs.length + 1) cap') size (xs ++ [x]) base → Fr (fun i => v.ownBlock = some i) w w' → (v.ownBlock = some g' ∨ w.heap.size ≤ g') →
      wpList Tryz.prog ops Q rest (a.put o.dst (.slice (some ⟨g', 0, none⟩) (xs.length + 1) cap')) w') :
    wpList Tryz.prog ops Q (o :: rest) a w := by
  obtain ⟨g', cap', w', hrun, a1, a2, a3⟩ := run_append_one o.type ht hti h hbase gx c1 x hx hx2 h1 hxs hm hfit
  refine wpList_plain hgd fun K hk => ?_
  unfold Oper.wp
  simp [execOp, ho, resolve, invoke, builtin, hs, hy, hrun, Result.andThen]
  exact hk _ _ (hK g' cap' w' a1 a2 a3)

theorem step_append_one {w : World} {ops : Array Oper} {o : Oper} {a : Act} {K : Act → World → Prop} {Q : Exit → Act → World → Prop} {E : Prop} (hgd : o.guard = none) (s y : Operand) (t : TypeId)
    (ho : o.op = .call { callee := .builtin .append, args := #[s, y], argTypes := #[t, t] }) (e : TypeId) (z : Value) (size bytes : Nat) (ht : Tryz.prog.underlying t = some (.slice e)) (hti : TI e z size bytes)
    (v : Value) (xs : List (Array Value)) (base : Nat) (hs : a.eval s = v) (h : OwnRows w v size xs base) (hbase : base ≤ w.heap.size) (gx c1 : Nat) (hy : a.eval y = .slice (some ⟨gx, 0, none⟩) 1 c1)
    (x : Array Value) (hx : size ≤ (rowOf w gx).size) (hx2 : cut (rowOf w gx) 0 size = x) (h1 : ones x) (hxs : ∀ y ∈ xs, y.size = size)
    (hm : xs.length + 1 ≤ maxLen) (hfit : Builtin.nextslicecap (xs.length + 1) xs.length * bytes ≤ 281474976710656)
    (hK : ∀ g' cap' w', OwnRows w' (.slice (some ⟨g', 0, none⟩) (xs.length + 1) cap') size (xs ++ [x]) base → Fr (fun i => v.ownBlock = some i) w w' → (v.ownBlock = some g' ∨ w.heap.size ≤ g') →
      K (a.put o.dst (.slice (some ⟨g', 0, none⟩) (xs.length + 1) cap')) w') :
    if Region.wanted o (yielded ops a.tmps) = true then Oper.wp Tryz.prog o a w K Q else E := by
  have hw : Region.wanted o (yielded ops a.tmps) = true := by simp [Region.wanted, hgd]
  rw [if_pos hw]
  obtain ⟨g', cap', w', hrun, a1, a2, a3⟩ := run_append_one o.type ht hti h hbase gx c1 x hx hx2 h1 hxs hm hfit
  unfold Oper.wp
  simp [execOp, ho, resolve, invoke, builtin, hs, hy, hrun, Result.andThen]
  exact hK g' cap' w' a1 a2 a3

theorem fitsN {n bytes : Nat} (h : n * bytes ≤ 70368744177664) (hb : bytes ≤ 1000) : Builtin.nextslicecap (n + 1) n * bytes ≤ 281474976710656 := growslice_fits_succ (by omega) (by omega)

end Go.Proofs.YteldfmgjbgedaaaGreat

namespace Go.Proofs.YteldfmgjbgedaaaGreat
open Go.RowKit Go.Maps

/-- A transaction's record. -/
structure TR where
  n : Nat
  snap : Nat
  act : Bool
  b : Nat
  e : Nat
  fi : Bool
  fo : Bool
  wr : Value

def TR.row (t : TR) : Array Value := txRow t.n t.snap t.act t.b t.e t.fi t.fo t.wr

/-- The map of the transactions: number, block, record. -/
structure TxnsAt (w : World) (bm n : Nat) (f : Value → Option Value) (T : Nat → Option (Nat × TR)) : Prop where
  map : MapF w 2 bm n f
  at_ : ∀ i p, T i = some p → f (.int .i64 (i : Nat)) = some (.pointer (some ⟨p.1, 0, none⟩)) ∧ live w p.1 = true ∧ rowOf w p.1 = p.2.row ∧ i < 2 ^ 40
  all : ∀ v x, f v = some x → ∃ i p, v = .int .i64 (i : Nat) ∧ T i = some p
  inj : ∀ i j p q, T i = some p → T j = some q → p.1 = q.1 → i = j

theorem TxnsAt.fr {w w' : World} {bm n : Nat} {f : Value → Option Value} {T : Nat → Option (Nat × TR)} (h : TxnsAt w bm n f T) {F : Nat → Prop} (hf : Fr F w w') (hb : ¬ F bm) (ht : ∀ i p, T i = some p → ¬ F p.1) : TxnsAt w' bm n f T :=
  ⟨h.map.fr hf hb, fun i p hp => by
    obtain ⟨h1, h2, h3, h4⟩ := h.at_ i p hp
    exact ⟨h1, by rw [hf.liv (live_lt h2) (ht i p hp)]; exact h2, by rw [hf.row (live_lt h2) (ht i p hp)]; exact h3, h4⟩, h.all, h.inj⟩
theorem TxnsAt.ptr {w : World} {bm n : Nat} {f : Value → Option Value} {T : Nat → Option (Nat × TR)} (h : TxnsAt w bm n f T) {v x : Value} (hv : f v = some x) : ∃ i p, v = .int .i64 (i : Nat) ∧ T i = some p ∧ x = .pointer (some ⟨p.1, 0, none⟩) ∧ live w p.1 = true ∧ rowOf w p.1 = p.2.row ∧ i < 2 ^ 40 := by
  obtain ⟨i, p, rfl, hp⟩ := h.all v x hv
  obtain ⟨h1, h2⟩ := h.at_ i p hp
  rw [h1] at hv
  exact ⟨i, p, rfl, hp, (Option.some.inj hv).symm, h2⟩

def natRows (xs : List Nat) : List (Array Value) := xs.map fun i => #[.int .i64 (i : Nat)]
theorem natRows_length (xs : List Nat) : (natRows xs).length = xs.length := by simp [natRows]
theorem natRows_snoc (xs : List Nat) (i : Nat) : natRows (xs ++ [i]) = natRows xs ++ [#[.int .i64 (i : Nat)]] := by simp [natRows]
theorem natRows_size (xs : List Nat) : ∀ y ∈ natRows xs, y.size = 1 := by
  intro y hy
  simp only [natRows, List.mem_map] at hy
  obtain ⟨i, -, rfl⟩ := hy
  rfl

/-- What sorting does to a slice of numbers. -/
def Sorts53 : Prop := ∀ (w : World) (v : Value) (xs : List Nat) (base : Nat), OwnRows w v 1 (natRows xs) base → xs.length < 2 ^ 41 →
  Calls Tryz.prog 53 #[v] w fun e w' => e = .returned (.tuple #[]) ∧ ∃ ys, ys.Perm xs ∧ OwnRows w' v 1 (natRows ys) base ∧ Fr (fun k => v.ownBlock = some k) w w'

set_option maxRecDepth 20000 in
set_option maxHeartbeats 2000000 in
theorem active_any (HS : Sorts53) (w : World) (m : Nat) {ca ck cr cl now last clock : Int} {bm bl br n : Nat} (h : rowOf w m = mgRow ca ck cr cl now last clock bm bl br) {f : Value → Option Value} {T : Nat → Option (Nat × TR)} (hT : TxnsAt w bm n f T) (hn : n < 2 ^ 40) :
    Calls Tryz.prog 26 #[.pointer (some ⟨m, 0, none⟩)] w fun e w' => ∃ v xs, e = .returned v ∧ OwnRows w' v 1 (natRows xs) w.heap.size ∧ (∀ i, i ∈ xs ↔ ∃ p, T i = some p ∧ p.2.act = true) ∧ xs.length ≤ n ∧ Fr (fun _ => False) w w' := by
  have HN := Lib.hid (none25_any w m h)
  have HT := Lib.hid hT
  have hown := hT.map
  unfold mgRow at h
  clear hT
  go_enter Tryz.func26, Tryz.ntmps26
  go_wp2_with fail
  refine HN.out.mono ?_
  rintro e w' ⟨rfl, rfl⟩
  go_wp2_with (at_range; refine wpList_rangeF _ rfl _ 55 rfl law2 Tryz.underlying55 hown rfl ?_; intro w0 cnt0 hrg0 hcn0 hf0 hs0)
  go_frame
  have hlb : bm < w.heap.size := hown.lt
  go_loopw [3] (fun l wr => ∃ (left : Value → Prop) (cnt : Nat) (v : Value) (xs : List Nat), l = v ∧ RangeF wr 2 bm w.heap.size n f left cnt ∧ xs.length + cnt ≤ n ∧ OwnRows wr v 1 (natRows xs) (w.heap.size + 1) ∧ (∀ i, i ∈ xs ↔ ∃ p, T i = some p ∧ p.2.act = true ∧ ¬ left (.int .i64 (i : Nat))) ∧ (∀ v, left v → (f v).isSome = true) ∧ Fr (fun _ => False) w wr) (fun _ wr => wr.rangeLeft bm w.heap.size)
  case atStart =>
    refine ⟨_, cnt0, _, [], rfl, hrg0, by simpa using hcn0, OwnRows.nil _ _ _, ?_, fun _ h => h, hf0⟩
    intro i
    refine ⟨fun h => (by cases h), ?_⟩
    rintro ⟨p, h1, _, h3⟩
    refine absurd ?_ h3
    show (f _).isSome = true
    rw [(HT.out.at_ i p h1).1]; rfl
  case round =>
    obtain ⟨left, cnt, v, xs, rfl, hrg, hcn, ho, hm, hle, hf⟩ := hrel
    have HO := Lib.hid ho
    have HM := Lib.hid hm
    have HLE := Lib.hid hle
    have HF := Lib.hid hf
    have HRG := Lib.hid hrg
    clear hm hle hf ho h
    go_wp2_with (at_next; refine wpList_nextF _ rfl _ rfl law2 w.heap.size rfl hrg ?_ ?_)
    · intro hc0 hl0
      clear hrg
      have hlo : xs.length < 2 ^ 41 := by omega
      have HX := Lib.hid (HS wr u3 xs (w.heap.size + 1) HO.out hlo)
      clear hlo
      go_wp2_with (go_at_call 53; refine HX.out.mono ?_; rintro e w2 ⟨rfl, ys, hp, hoy, hf2⟩)
      go_ret
      refine ⟨_, ys, rfl, ?_, ?_, ?_, HF.out.trans hf2 (fun k hk e => by have := (HO.out.lt e).1; omega)⟩
      · rcases hoy with ⟨h1, h2⟩ | ⟨g, cap, h1, h2, h3⟩
        · exact .inl ⟨h1, h2⟩
        · exact .inr ⟨g, cap, h1, by omega, h3⟩
      · intro i
        rw [hp.mem_iff, HM.out]
        exact ⟨fun ⟨p, h1, h2, _⟩ => ⟨p, h1, h2⟩, fun ⟨p, h1, h2⟩ => ⟨p, h1, h2, hl0 _⟩⟩
      · rw [hp.length_eq]; omega
    · intro key x kl w1 cnt1 hkey hlk hfx hrg1 hlt hf1 hs1 hen
      obtain ⟨i, p, rfl, hp, rfl, hpl, hpr, hi⟩ := HT.out.ptr hfx
      have FP := HF.out.trans (hf1.mono (G := fun k => k = w.heap.size) (fun _ _ h => h)) (fun k hk h => absurd h (Nat.ne_of_lt hk))
      have l1 : live w1 p.1 = true := by rw [FP.liv (live_lt hpl) (fun e => e)]; exact hpl
      have r1 : rowOf w1 p.1 = txRow p.2.n p.2.snap p.2.act p.2.b p.2.e p.2.fi p.2.fo p.2.wr := by rw [FP.row (live_lt hpl) (fun e => e)]; exact hpr
      have HO1 := Lib.hid (HO.out.keep hf1 (fun k hk e => by have := (HO.out.lt hk).1; omega))
      have HRG1 := Lib.hid hrg1
      have HP := Lib.hid hp
      have HFX := Lib.hid hfx
      have HF1 := Lib.hid hf1
      have HK := Lib.hid hkey
      have HLK := Lib.hid hlk
      have HPR := Lib.hid hpr
      have HS1 := Lib.hid hs1
      clear hs1 hrg hrg1 hp hf1 hkey hlk FP hpr hpl hfx
      unfold txRow at r1
      cases hact : p.2.act with
      | false =>
        rw [hact] at r1
        go_wp2
        go_roundw
        case rel =>
          refine ⟨_, cnt1, _, xs, rfl, HRG1.out, by omega, HO1.out, ?_, fun v hv => HLE.out v hv.1, HF.out.trans HF1.out (fun k hk h => by omega)⟩
          intro j
          rw [HM.out]
          constructor
          · rintro ⟨q, h1, h2, h3⟩
            exact ⟨q, h1, h2, fun h => h3 h.1⟩
          · rintro ⟨q, h1, h2, h3⟩
            refine ⟨q, h1, h2, fun h => h3 ⟨h, fun e => ?_⟩⟩
            obtain rfl : j = i := by injection e with _ e; omega
            rw [HP.out] at h1; cases h1
            rw [hact] at h2; cases h2
        case measure => rw [HRG1.out.left_eq, HRG.out.left_eq]; exact hlt
      | true =>
        rw [hact] at r1
        go_wp2_with (at_builtin; refine wpList_append_one rfl (.tmp 22) (.tmp 24) 83 rfl 2 _ 1 8 Tryz.underlying83 ti2 u3 (natRows xs) (w.heap.size + 1) rfl (HO1.out.keep ((Fr.refl (fun _ => False) w1).alloc _) (fun _ _ h => h)) (by have := HF.out.size; have := HS1.out; simp; omega) w1.heap.size 1 rfl #[.int .i64 (i : Nat)] (by simp [go_sem]) (by simp [go_sem]; rfl) (by intro y hy; simp at hy; subst hy; rfl) (natRows_size _) (by rw [natRows_length]; simp only [maxLen]; omega) (fitsN (by rw [natRows_length]; omega) (by omega)) ?_; intro g' cap' w3 ho3 f3 hn3; have HO3 := Lib.hid ho3; have F3 := Lib.hid f3; have N3 := Lib.hid hn3; clear ho3 f3 hn3)
        have FA : Fr (fun k => u3.ownBlock = some k) w1 w3 := ((Fr.refl (fun _ => False) w1).alloc _).mono (fun _ _ h => h.elim) |>.trans F3.out (fun _ _ h => h)
        have hbl : ∀ k, u3.ownBlock = some k → w.heap.size + 1 ≤ k := fun k hk => (HO.out.lt hk).1
        have HRG3 := Lib.hid (HRG1.out.fr FA (fun e => by have := hbl _ e; omega) (fun e => by have := hbl _ e; omega))
        go_roundw
        case rel =>
          refine ⟨_, cnt1, _, xs ++ [i], rfl, HRG3.out, by simp; omega, ?_, ?_, fun v hv => HLE.out v hv.1, (HF.out.trans HF1.out (fun k hk h => by omega)).trans FA (fun k hk h => by have := hbl _ h; omega)⟩
          · rw [natRows_snoc]; have := HO3.out; rwa [natRows_length] at this ⊢
          · intro j
            rw [List.mem_append, HM.out]
            constructor
            · rintro (⟨q, h1, h2, h3⟩ | hj)
              · exact ⟨q, h1, h2, fun h => h3 h.1⟩
              · obtain rfl := List.mem_singleton.1 hj
                exact ⟨p, HP.out, hact, fun h => h.2 rfl⟩
            · rintro ⟨q, h1, h2, h3⟩
              by_cases hji : j = i
              · subst hji; exact .inr (by simp)
              · exact .inl ⟨q, h1, h2, fun h => h3 ⟨h, fun e => hji (by injection e with _ e; omega)⟩⟩
        case measure => rw [HRG3.out.left_eq, HRG.out.left_eq]; exact hlt
end Go.Proofs.YteldfmgjbgedaaaGreat

namespace Go.Proofs.YteldfmgjbgedaaaGreat
open Go.RowKit Go.Maps

/-- A string's value. -/
def strV (s : List UInt8) : Value := .string ⟨s.toArray⟩
theorem strV_inj {a b : List UInt8} (h : strV a = strV b) : a = b := by
  unfold strV at h; injection h with h; injection h with h; simpa using h
/-- The lock of key s: its cells, its value. -/
def lkC (s : List UInt8) : Array Value := #[.string ⟨#[116]⟩, strV s]
def lkKey (s : List UInt8) : Value := .agg (lkC s)
theorem lkKey_inj {a b : List UInt8} (h : lkKey a = lkKey b) : a = b := by
  unfold lkKey lkC at h; injection h with h
  have := congrArg (fun a : Array Value => a[1]?) h
  simp at this
  exact strV_inj this
theorem lkKey_key {s : List UInt8} (h : s.length ≤ maxLen) : ∃ kl, keyOf Tryz.prog 66 (lkKey s) = some kl :=
  key66 (a := ⟨#[116]⟩) (b := ⟨s.toArray⟩) (by decide) (by show s.toArray.size ≤ maxLen; simpa using h)

def lkRows (xs : List Key) : List (Array Value) := xs.map lkC
theorem lkRows_length (xs : List Key) : (lkRows xs).length = xs.length := by simp [lkRows]
theorem lkRows_snoc (xs : List Key) (s : Key) : lkRows (xs ++ [s]) = lkRows xs ++ [lkC s] := by simp [lkRows]
theorem lkRows_size (xs : List Key) : ∀ y ∈ lkRows xs, y.size = 2 := by
  intro y hy
  simp only [lkRows, List.mem_map] at hy
  obtain ⟨s, -, rfl⟩ := hy
  rfl

/-- The locks: who holds what. -/
structure LocksAt (w : World) (bk n : Nat) (f : Value → Option Value) (G : Key → Option Nat) : Prop where
  map : MapF w 66 bk n f
  at_ : ∀ s h, G s = some h → f (lkKey s) = some (.int .i64 (h : Nat)) ∧ s.length ≤ maxLen
  all : ∀ v x, f v = some x → ∃ s h, v = lkKey s ∧ G s = some h ∧ h < 2 ^ 40

theorem LocksAt.fr {w w' : World} {bk n : Nat} {f : Value → Option Value} {G : Key → Option Nat} (h : LocksAt w bk n f G) {F : Nat → Prop} (hf : Fr F w w') (hb : ¬ F bk) : LocksAt w' bk n f G := ⟨h.map.fr hf hb, h.at_, h.all⟩
theorem LocksAt.get {w : World} {bk n : Nat} {f : Value → Option Value} {G : Key → Option Nat} (h : LocksAt w bk n f G) {v x : Value} (hv : f v = some x) : ∃ s o, v = lkKey s ∧ G s = some o ∧ x = .int .i64 (o : Nat) ∧ o < 2 ^ 40 ∧ s.length ≤ maxLen := by
  obtain ⟨s, o, rfl, hg, ho⟩ := h.all v x hv
  obtain ⟨h1, h2⟩ := h.at_ s o hg
  rw [h1] at hv
  exact ⟨s, o, rfl, hg, (Option.some.inj hv).symm, ho, h2⟩
theorem LocksAt.none_ {w : World} {bk n : Nat} {f : Value → Option Value} {G : Key → Option Nat} (h : LocksAt w bk n f G) {s : Key} (hg : G s = none) : f (lkKey s) = none := by
  cases hf : f (lkKey s) with
  | none => rfl
  | some x =>
    obtain ⟨s', o, h1, h2, _⟩ := h.get hf
    rw [← lkKey_inj h1, hg] at h2; cases h2

/-- What sorting does to a slice of locks. -/
def Sorts68 : Prop := ∀ (w : World) (v : Value) (xs : List Key) (base : Nat), OwnRows w v 2 (lkRows xs) base → xs.length < 2 ^ 41 →
  Calls Tryz.prog 68 #[v, .func (.func 69) #[] #[]] w fun e w' => e = .returned (.tuple #[]) ∧ ∃ ys, ys.Perm xs ∧ OwnRows w' v 2 (lkRows ys) base ∧ Fr (fun k => v.ownBlock = some k) w w'

set_option maxRecDepth 20000 in
set_option maxHeartbeats 2000000 in
theorem held_any (HS : Sorts68) (w : World) (l : Nat) {most : Int} {bk n : Nat} (h : rowOf w l = lkRow most bk) {f : Value → Option Value} {G : Key → Option Nat} (hG : LocksAt w bk n f G) (hn : n < 2 ^ 40) (tx : Nat) :
    Calls Tryz.prog 41 #[.pointer (some ⟨l, 0, none⟩), .int .i64 (tx : Nat)] w fun e w' => ∃ v xs, e = .returned v ∧ OwnRows w' v 2 (lkRows xs) w.heap.size ∧ (∀ s, s ∈ xs ↔ G s = some tx) ∧ xs.length ≤ n ∧ Fr (fun _ => False) w w' := by
  have HN := Lib.hid (none55_any w l h)
  have HT := Lib.hid hG
  have hown := hG.map
  unfold lkRow at h
  clear hG
  go_enter Tryz.func41, Tryz.ntmps41
  go_wp2_with fail
  refine HN.out.mono ?_
  rintro e w' ⟨rfl, rfl⟩
  go_wp2_with (at_range; refine wpList_rangeF _ rfl _ 86 rfl law66 Tryz.underlying86 hown rfl ?_; intro w0 cnt0 hrg0 hcn0 hf0 hs0)
  go_frame
  have hlb : bk < w.heap.size := hown.lt
  go_loopw [5] (fun l wr => ∃ (left : Value → Prop) (cnt : Nat) (v : Value) (xs : List Key), l = v ∧ RangeF wr 66 bk w.heap.size n f left cnt ∧ xs.length + cnt ≤ n ∧ OwnRows wr v 2 (lkRows xs) (w.heap.size + 1) ∧ (∀ s, s ∈ xs ↔ G s = some tx ∧ ¬ left (lkKey s)) ∧ (∀ v, left v → (f v).isSome = true) ∧ Fr (fun _ => False) w wr) (fun _ wr => wr.rangeLeft bk w.heap.size)
  case atStart =>
    refine ⟨_, cnt0, _, [], rfl, hrg0, by simpa using hcn0, OwnRows.nil _ _ _, ?_, fun _ h => h, hf0⟩
    intro s
    refine ⟨fun h => (by cases h), ?_⟩
    rintro ⟨h1, h3⟩
    refine absurd ?_ h3
    show (f _).isSome = true
    rw [(HT.out.at_ s tx h1).1]; rfl
  case round =>
    obtain ⟨left, cnt, v, xs, rfl, hrg, hcn, ho, hm, hle, hf⟩ := hrel
    have HO := Lib.hid ho
    have HM := Lib.hid hm
    have HLE := Lib.hid hle
    have HF := Lib.hid hf
    have HRG := Lib.hid hrg
    clear hm hle hf ho h
    go_wp2_with (at_next; refine wpList_nextF _ rfl _ rfl law66 w.heap.size rfl hrg ?_ ?_)
    · intro hc0 hl0
      clear hrg
      have hlo : xs.length < 2 ^ 41 := by omega
      have HX := Lib.hid (HS wr u5 xs (w.heap.size + 1) HO.out hlo)
      clear hlo
      go_wp2_with (go_at_call 68; refine HX.out.mono ?_; rintro e w2 ⟨rfl, ys, hp, hoy, hf2⟩)
      go_ret
      refine ⟨_, ys, rfl, ?_, ?_, ?_, HF.out.trans hf2 (fun k hk e => by have := (HO.out.lt e).1; omega)⟩
      · rcases hoy with ⟨h1, h2⟩ | ⟨g, cap, h1, h2, h3⟩
        · exact .inl ⟨h1, h2⟩
        · exact .inr ⟨g, cap, h1, by omega, h3⟩
      · intro i
        rw [hp.mem_iff, HM.out]
        exact ⟨fun ⟨h1, _⟩ => h1, fun h1 => ⟨h1, hl0 _⟩⟩
      · rw [hp.length_eq]; omega
    · intro key x kl w1 cnt1 hkey hlk hfx hrg1 hlt hf1 hs1 hen
      obtain ⟨s, o, rfl, hp, rfl, ho40, hsl⟩ := HT.out.get hfx
      have HO1 := Lib.hid (HO.out.keep hf1 (fun k hk e => by have := (HO.out.lt hk).1; omega))
      have HRG1 := Lib.hid hrg1
      have HP := Lib.hid hp
      have HF1 := Lib.hid hf1
      have HS1 := Lib.hid hs1
      clear hrg hrg1 hp hf1 hkey hlk hfx hs1
      unfold lkKey lkC strV at hen
      by_cases hot : (o : Int) = (tx : Int)
      · have hdo : decide ((o : Int) = (tx : Int)) = true := decide_eq_true hot
        go_wp2_with (at_builtin; refine wpList_append_one rfl (.tmp 23) (.tmp 25) 95 rfl 66 _ 2 32 Tryz.underlying95 ti66 u5 (lkRows xs) (w.heap.size + 1) rfl (HO1.out.keep ((((Fr.refl (fun _ => False) w1).alloc _).setNew (Nat.le_refl _) _).alloc _) (fun _ _ h => h)) (by have := HF.out.size; have := HS1.out; simp; omega) (w1.heap.size + 1) 1 rfl (lkC s) (by simp [go_sem]) (by simp [go_sem]; rfl) (by intro y hy; simp [lkC] at hy; rcases hy with rfl | rfl <;> rfl) (lkRows_size _) (by rw [lkRows_length]; simp only [maxLen]; omega) (fitsN (by rw [lkRows_length]; omega) (by omega)) ?_; intro g' cap' w3 ho3 f3 hn3; have HO3 := Lib.hid ho3; have F3 := Lib.hid f3; have N3 := Lib.hid hn3; clear ho3 f3 hn3)
        have FA : Fr (fun k => u5.ownBlock = some k) w1 w3 := ((((Fr.refl (fun _ => False) w1).alloc _).setNew (Nat.le_refl _) _).alloc _).mono (fun _ _ h => h.elim) |>.trans F3.out (fun _ _ h => h)
        have hbl : ∀ k, u5.ownBlock = some k → w.heap.size + 1 ≤ k := fun k hk => (HO.out.lt hk).1
        have HRG3 := Lib.hid (HRG1.out.fr FA (fun e => by have := hbl _ e; omega) (fun e => by have := hbl _ e; omega))
        go_roundw
        case rel =>
          refine ⟨_, cnt1, _, xs ++ [s], rfl, HRG3.out, by simp; omega, ?_, ?_, fun v hv => HLE.out v hv.1, (HF.out.trans HF1.out (fun k hk h => by omega)).trans FA (fun k hk h => by have := hbl _ h; omega)⟩
          · rw [lkRows_snoc]; have := HO3.out; rwa [lkRows_length] at this ⊢
          · intro j
            rw [List.mem_append, HM.out]
            constructor
            · rintro (⟨h1, h3⟩ | hj)
              · exact ⟨h1, fun h => h3 h.1⟩
              · obtain rfl := List.mem_singleton.1 hj
                exact ⟨by rw [HP.out]; congr 1; omega, fun h => h.2 rfl⟩
            · rintro ⟨h1, h3⟩
              by_cases hji : j = s
              · subst hji; exact .inr (by simp)
              · exact .inl ⟨h1, fun h => h3 ⟨h, fun e => hji (lkKey_inj e)⟩⟩
        case measure => rw [HRG3.out.left_eq, HRG.out.left_eq]; exact hlt
      · have hdo : decide ((o : Int) = (tx : Int)) = false := decide_eq_false hot
        go_wp2
        have FA : ∀ a b, Fr (fun _ => False) w1 ((w1.alloc a).setRow w1.heap.size b) := fun a b => ((Fr.refl (fun _ => False) w1).alloc _).setNew (Nat.le_refl _) _
        go_roundw
        case rel =>
          refine ⟨_, cnt1, _, xs, rfl, HRG1.out.fr (FA _ _) (fun e => e) (fun e => e), by omega, HO1.out.keep (FA _ _) (fun _ _ e => e), ?_, fun v hv => HLE.out v hv.1, (HF.out.trans HF1.out (fun k hk h => by omega)).trans (FA _ _) (fun k hk h => h)⟩
          intro j
          rw [HM.out]
          constructor
          · rintro ⟨h1, h3⟩
            exact ⟨h1, fun h => h3 h.1⟩
          · rintro ⟨h1, h3⟩
            refine ⟨h1, fun h => h3 ⟨h, fun e => ?_⟩⟩
            obtain rfl := lkKey_inj e
            rw [HP.out] at h1; cases h1
            exact hot rfl
        case measure => rw [(HRG1.out.fr (FA _ _) (fun e => e) (fun e => e)).left_eq, HRG.out.left_eq]; exact hlt

theorem MapF.ne_live {w : World} {k : TypeId} {b n : Nat} {f : Value → Option Value} (h : MapF w k b n f) {l : Nat} (hl : live w l = true) : l ≠ b := by
  rintro rfl
  obtain ⟨D, ⟨es, clock, hb, _⟩, _⟩ := h
  obtain ⟨t, ht⟩ := live_obj hl
  rw [hb] at ht; cases ht

theorem OwnRows.get {w : World} {a : Option Addr} {m c size : Nat} {xs : List (Array Value)} {base : Nat} (h : OwnRows w (.slice a m c) size xs base) {k : Nat} (hk : k < xs.length) :
    ∃ g, a = some ⟨g, 0, none⟩ ∧ base ≤ g ∧ live w g = true ∧ m = xs.length ∧ xs.length ≤ c ∧ k * size + size ≤ (rowOf w g).size ∧ ∀ i, i < size → (rowOf w g)[k * size + i]? = (xs[k])[i]? := by
  rcases h with ⟨_, rfl⟩ | ⟨g, cap, e, h1, h2, h3, h4, h5, h6⟩
  · simp at hk
  · injection e with e1 e2 e3
    subst e1 e2 e3
    have hb : k * size + size ≤ (rowOf w g).size := by
      rw [h5]
      have := Nat.mul_le_mul_right size (Nat.le_trans hk h3.1)
      rw [Nat.succ_mul] at this; exact this
    exact ⟨g, rfl, h1, h2, rfl, h3.1, hb, fun i hi => by rw [← h6 k hk, cut_get hb i hi]⟩

theorem LocksAt.del {w w' : World} {bk n : Nat} {f : Value → Option Value} {G : Key → Option Nat} (h : LocksAt w bk n f G) {s : Key} (hm : MapF w' 66 bk n (updF f (lkKey s) none)) : LocksAt w' bk n (updF f (lkKey s) none) (fun u => if u = s then none else G u) := by
  refine ⟨hm, fun u o hu => ?_, fun v x hv => ?_⟩
  · by_cases e : u = s
    · rw [if_pos e] at hu; cases hu
    · rw [if_neg e] at hu
      rw [updF_ne f _ (fun h => e (lkKey_inj h))]; exact h.at_ u o hu
  · by_cases e : v = lkKey s
    · rw [e, updF_same] at hv; cases hv
    · rw [updF_ne f _ e] at hv
      obtain ⟨u, o, h1, h2, h3⟩ := h.all v x hv
      exact ⟨u, o, h1, by rw [if_neg (fun hh => e (by rw [h1, hh]))]; exact h2, h3⟩

set_option maxRecDepth 20000 in
set_option maxHeartbeats 2000000 in
theorem release_any (HS : Sorts68) (w : World) (l : Nat) {most : Int} {bk n : Nat} (h : rowOf w l = lkRow most bk) (hl : live w l = true) {f : Value → Option Value} {G : Key → Option Nat} (hG : LocksAt w bk n f G) (hn : n < 2 ^ 40) (tx : Nat) :
    Calls Tryz.prog 43 #[.pointer (some ⟨l, 0, none⟩), .int .i64 (tx : Nat)] w fun e w' => ∃ v f', e = .returned v ∧ LocksAt w' bk n f' (fun s => if G s = some tx then none else G s) ∧ Fr (fun k => k = bk) w w' := by
  have HN := Lib.hid (none55_any w l h)
  have HT := Lib.hid hG
  have HH := Lib.hid (held_any HS w l h hG hn tx)
  have HL := Lib.hid hl
  have hlb : bk < w.heap.size := hG.map.lt
  have hll : l < w.heap.size := live_lt hl
  have hne : l ≠ bk := hG.map.ne_live hl
  unfold lkRow at h
  clear hG
  go_enter Tryz.func43, Tryz.ntmps43
  go_wp2_with (first | (go_at_call 55; refine HN.out.mono ?_; rintro e w' ⟨rfl, rfl⟩) | (go_at_call 41; refine HH.out.mono ?_; rintro e w1 ⟨v, xs, rfl, ho, hm, hxn, hf⟩; obtain ⟨a, c, rfl⟩ := ho.len; rw [lkRows_length] at ho ⊢))
  have HO := Lib.hid ho
  have HM := Lib.hid hm
  have HF := Lib.hid hf
  clear ho hm hf
  go_loopw [15] (fun t wr => ∃ (k : Nat) (f' : Value → Option Value), t = .int .i64 (k : Nat) ∧ k ≤ xs.length ∧ LocksAt wr bk n f' (fun s => if s ∈ xs.take k then none else G s) ∧ Fr (fun k => k = bk) w1 wr) (fun t _ => xs.length - (intOf t).toNat)
  case atStart =>
    exact ⟨0, f, rfl, Nat.zero_le _, by simpa using HT.out.fr HF.out (fun e => e), Fr.refl _ _⟩
  case round =>
    obtain ⟨k, f', rfl, hk, hg, hf⟩ := hrel
    have HG := Lib.hid hg
    have HF' := Lib.hid hf
    have hrl : rowOf wr l = #[Value.int IntKind.i64 most, Value.map (some bk)] := by rw [hf.row (Nat.lt_of_lt_of_le hll HF.out.size) hne, HF.out.row hll (fun e => e)]; exact h
    clear hg hf h
    by_cases hlt : k < xs.length
    · obtain ⟨g, rfl, hbg, hlg, -, hxc, hsz, hget⟩ := HO.out.get (k := k) (by rw [lkRows_length]; exact hlt)
      have hgb : g ≠ bk := by omega
      have hlg' : live wr g = true := by rw [HF'.out.liv (live_lt hlg) hgb]; exact hlg
      have hrg : rowOf wr g = rowOf w1 g := HF'.out.row (live_lt hlg) hgb
      have hxk : (lkRows xs)[k]'(by rw [lkRows_length]; exact hlt) = lkC xs[k] := by simp [lkRows]
      have c0 := hget 0 (by omega)
      have c1 := hget 1 (by omega)
      rw [hxk, ← hrg] at c0 c1
      have hsx : xs[k].length ≤ maxLen := (HT.out.at_ _ _ ((HM.out xs[k]).1 (List.getElem_mem hlt))).2
      have HXK := Lib.hid (rfl : xs[k] = xs[k])
      generalize hq : xs[k] = q at c0 c1 hsx HXK
      have HQ := Lib.hid hq
      replace c0 : (rowOf wr g)[k * 2]? = some (.string ⟨#[116]⟩) := c0
      replace c1 : (rowOf wr g)[k * 2 + 1]? = some (.string ⟨q.toArray⟩) := c1
      have hki : (k : Int) < (xs.length : Int) := by omega
      obtain ⟨kl, hkl⟩ := lkKey_key hsx
      unfold lkKey lkC strV at hkl
      have FA : Fr (fun _ => False) wr ((((wr.alloc (.cells #[.string ⟨#[]⟩, .string ⟨#[]⟩] 66)).setRow wr.heap.size #[.string ⟨#[116]⟩, .string ⟨q.toArray⟩])).drew) := (((Fr.refl (fun _ => False) wr).alloc _).setNew (Nat.le_refl _) _).drew
      obtain ⟨w3, hst, hm3, hf3⟩ := (HG.out.map.fr FA (fun e => e)).drop law66 Tryz.underlying86 (.agg #[.string ⟨#[116]⟩, .string ⟨q.toArray⟩]) hkl 0
      have HM3 := Lib.hid hm3
      have HF3 := Lib.hid hf3
      have HFA := Lib.hid FA
      have hl' : l < wr.heap.size := Nat.lt_of_lt_of_le hll (Nat.le_trans HF.out.size HF'.out.size)
      have hls : l ≠ wr.heap.size := by omega
      clear hget hrg hxk hsz hlg hq hm3 hf3 FA hkl
      go_wp2_with fail
      go_region
      all_goals
        go_wp2
        go_roundw
        case rel =>
          refine ⟨k + 1, updF f' (lkKey q) none, by go_num, by omega, ?_, (HF'.out.trans (HFA.out.mono (fun _ _ h => h.elim)) (fun _ _ h => h)).trans HF3.out (fun _ _ h => h)⟩
          have hd := HG.out.del (s := q) HM3.out
          have e : (fun s => if s ∈ xs.take (k + 1) then none else G s) = fun u => if u = q then none else (if u ∈ xs.take k then none else G u) := by
            funext u
            rw [List.take_succ_eq_append_getElem hlt, HQ.out]
            by_cases h1 : u = q
            · rw [if_pos h1, if_pos (by rw [h1]; simp)]
            · rw [if_neg h1]
              by_cases h2 : u ∈ xs.take k
              · rw [if_pos h2, if_pos (List.mem_append_left _ h2)]
              · rw [if_neg h2, if_neg (by simp [h1, h2])]
          rw [e]; exact hd
        case measure => simp only [intOf]; omega
    · obtain rfl : k = xs.length := by omega
      go_wp2
      go_ret
      refine ⟨_, f', rfl, ?_, (HF.out.mono (fun _ _ h => h.elim)).trans HF'.out (fun _ _ h => h)⟩
      have := HG.out
      rw [List.take_of_length_le (Nat.le_refl _)] at this
      have e : (fun s => if G s = some tx then none else G s) = fun s => if s ∈ xs then none else G s := by
        funext s
        by_cases h : s ∈ xs
        · rw [if_pos h, if_pos ((HM.out s).1 h)]
        · rw [if_neg h, if_neg (fun hh => h ((HM.out s).2 hh))]
      rw [e]; exact this
end Go.Proofs.YteldfmgjbgedaaaGreat
