/-
  append and slices.Clone that make a row of their own.
-/
import Derived.Test.YtflnlpbcmcfblaaCrash
import Derived.Lib.SliceRun
namespace Go.Proofs.Ytflnlpbcmcfblaa
open Go.RowKit

/-- A type's row of the table. -/
def TI (e : TypeId) (z : Value) (size bytes : Nat) : Prop := (Try.prog.info? e).map (fun i => (i.zero, i.size, i.bytes)) = some (some z, size, bytes) ∧ z.cells.size = size ∧ 0 < size

theorem ti3 : TI 3 (.int .i64 0) 1 8 := ⟨by kernel_rfl, rfl, by omega⟩
theorem ti4 : TI 4 (.bool false) 1 1 := ⟨by kernel_rfl, rfl, by omega⟩
theorem ti5 : TI 5 (.int .u8 0) 1 1 := ⟨by kernel_rfl, rfl, by omega⟩
theorem ti36 : TI 36 (.slice none 0 0) 1 24 := ⟨by kernel_rfl, rfl, by omega⟩
theorem ti44 : TI 44 (.agg #[.int .i64 0, .slice none 0 0]) 2 32 := ⟨by kernel_rfl, rfl, by omega⟩
theorem ti110 : TI 110 (.agg (Array.replicate 64 (.int .u8 0))) 64 64 := ⟨info110, by simp [Value.cells], by omega⟩
theorem ti112 : TI 112 (.agg zero112) 65 72 := ⟨info112, by simp [Value.cells, zero112_size], by omega⟩

theorem ext_take_cut {cur : Array Value} {n : Nat} {l : List Value} (h : cur.toList.take n = l) : cut cur 0 n = l.toArray := by
  apply Array.ext'
  simp [cut, ← h, List.extract_eq_take_drop]

section
variable (w : World)

/-- append of m > 0 elements to nil, or to a slice without room: a new row. -/
theorem run_append_fresh (t ty e : TypeId) (z : Value) (size bytes : Nat) (ht : Try.prog.underlying t = some (.slice e)) (hti : TI e z size bytes)
    (s : Option Addr) (hs : s = none ∨ ∃ gs, s = some ⟨gs, 0, none⟩ ∧ live w gs = true) (gx offx m c : Nat) (hm : 0 < m) (hx : offx + m * size ≤ (rowOf w gx).size) 
    (h63 : m ≤ maxLen) (h48 : m * bytes ≤ 281474976710656) :
    ∃ cap cur, m ≤ cap ∧ cap ≤ maxLen ∧ cur.size = cap * size ∧ cut cur 0 (m * size) = cut (rowOf w gx) offx (m * size) ∧ cur = cut (rowOf w gx) offx (m * size) ++ Builtin.zeroCells z.cells (cap - m) ∧
      (Builtin.append_ #[t, t] ty #[.slice s 0 0, .slice (some ⟨gx, offx, none⟩) m c]).run Try.prog w = .ok (.slice (some ⟨w.heap.size, 0, none⟩) m cap) ((w.alloc (.cells cur e)).drew) := by
  obtain ⟨hi0, hzs, hsz⟩ := hti
  obtain ⟨i, hi, hz, hsize, hby⟩ := info_parts hi0
  have hnews : ∀ j u, (cut (rowOf w gx) offx (m * size)).toList[j]? = some u → w.cell? ((⟨gx, offx, none⟩ : Addr).add j) = some u := by
    intro j u hu
    have hj : j < m * size := by
      have := (List.getElem?_eq_some_iff.1 hu).1
      simpa [cut_size hx] using this
    rw [Addr.add_lit, cell?_row, ← cut_get hx j hj]
    simpa using hu
  have hl : (cut (rowOf w gx) offx (m * size)).toList.length = m * i.size := by rw [hsize]; simp [cut_size hx]
  have hcap := grownCap_ge w m 0 e
  have hcm := grownCap_le_maxLen w m 0 e h63
  refine ⟨grownCap w m 0 e, (cut (rowOf w gx) offx (m * size)) ++ Builtin.zeroCells z.cells (grownCap w m 0 e - m), hcap, hcm, ?_, ?_, rfl, ?_⟩
  · rw [Array.size_append, cut_size hx, size_zeroCells, hzs, ← Nat.add_mul, Nat.add_sub_cancel' hcap]
  · apply cut_ext (cut_size hx)
    · rw [Array.size_append, cut_size hx]; omega
    · intro q hq
      rw [Nat.zero_add, Array.getElem?_append_left (by rw [cut_size hx]; exact hq)]
  · rcases hs with rfl | ⟨gs, rfl, hgs⟩
    · have hr := run_append_nil (P := Try.prog) w t ty e i z ht hi hz ⟨gx, offx, none⟩ m c _ hl hnews hm (by simp only [maxLen] at h63; omega) (by rw [hby]; exact h48)
      rw [hr]
      simp [World.alloc_drew]
    · have hr := run_append_grow (P := Try.prog) w t ty e i z ht hi hz ⟨gs, 0, none⟩ 0 0 [] (by simp) (by simp) ⟨gx, offx, none⟩ m c _ hl hnews (by omega) (by simp only [maxLen] at h63; omega)
        (by rw [Nat.zero_add, nextslicecap_zero hm, hby]; exact h48)
      simp only [Nat.zero_add] at hr
      rw [hr]
      simp [World.alloc_drew]

/-- The same as an arm of the walk. -/
theorem wpList_append_fresh {w : World} {ops : Array Oper} {rest : List Oper} {o : Oper} {a : Act} {Q : Exit → Act → World → Prop} (hgd : o.guard = none) (s x : Operand) (t : TypeId)
    (ho : o.op = .call { callee := .builtin .append, args := #[s, x], argTypes := #[t, t] }) (e : TypeId) (z : Value) (size bytes : Nat) (ht : Try.prog.underlying t = some (.slice e)) (hti : TI e z size bytes)
    (sa : Option Addr) (gx offx m c : Nat) (hs0 : a.eval s = .slice sa 0 0) (hx0 : a.eval x = .slice (some ⟨gx, offx, none⟩) m c)
    (hs : sa = none ∨ ∃ gs, sa = some ⟨gs, 0, none⟩ ∧ live w gs = true) (hm : 0 < m) (hx : offx + m * size ≤ (rowOf w gx).size)
    (h63 : m ≤ maxLen) (h48 : m * bytes ≤ 281474976710656)
    (h : ∀ cap cur, m ≤ cap → cap ≤ maxLen → cur.size = cap * size → RowKit.Hid (cut cur 0 (m * size) = cut (rowOf w gx) offx (m * size)) → RowKit.Hid (cur = cut (rowOf w gx) offx (m * size) ++ Builtin.zeroCells z.cells (cap - m)) → wpList Try.prog ops Q rest (a.put o.dst (.slice (some ⟨w.heap.size, 0, none⟩) m cap)) ((w.alloc (.cells cur e)).drew)) :
    wpList Try.prog ops Q (o :: rest) a w := by
  obtain ⟨cap, cur, a1, a2, a3, a4, a5, hrun⟩ := run_append_fresh w t o.type e z size bytes ht hti sa hs gx offx m c hm hx h63 h48
  refine wpList_plain hgd fun K hK => ?_
  unfold Oper.wp
  simp [execOp, ho, resolve, invoke, builtin, hs0, hx0, hrun, Result.andThen]
  exact hK _ _ (h cap cur a1 a2 a3 a4 a5)

end

/-! ### slices.Clone -/

@[go_sem] theorem run_eqlNil36 (w : World) (a : Option Addr) (n c : Nat) : (binOp .eql 36 (.slice a n c) (.slice none 0 0)).run Try.prog w = .ok (.bool a.isNone) w :=
  Lib.run_eql_slice_nil w 36 5 a n c 0 0 Try.underlying36
@[go_sem] theorem run_eqlNil66 (w : World) (a : Option Addr) (n c : Nat) : (binOp .eql 66 (.slice a n c) (.slice none 0 0)).run Try.prog w = .ok (.bool a.isNone) w :=
  Lib.run_eql_slice_nil w 66 110 a n c 0 0 Try.underlying66
@[go_sem] theorem run_eqlNil48 (w : World) (a : Option Addr) (n c : Nat) : (binOp .eql 48 (.slice a n c) (.slice none 0 0)).run Try.prog w = .ok (.bool a.isNone) w :=
  Lib.run_eql_slice_nil w 48 4 a n c 0 0 Try.underlying48
@[go_sem] theorem run_eqlNil67 (w : World) (a : Option Addr) (n c : Nat) : (binOp .eql 67 (.slice a n c) (.slice none 0 0)).run Try.prog w = .ok (.bool a.isNone) w :=
  Lib.run_eql_slice_nil w 67 112 a n c 0 0 Try.underlying67
@[go_sem] theorem run_eqlNil29 (w : World) (a : Option Addr) (n c : Nat) : (binOp .eql 29 (.slice a n c) (.slice none 0 0)).run Try.prog w = .ok (.bool a.isNone) w :=
  Lib.run_eql_slice_nil w 29 36 a n c 0 0 Try.underlying29

set_option maxHeartbeats 400000 in
theorem clone36_any (w : World) (g off n c : Nat) (hn : 0 < n) (hx : off + n ≤ (rowOf w g).size) (hb : n ≤ 140737488355328) :
    Calls Try.prog 65 #[.slice (some ⟨g, off, none⟩) n c] w fun e w' => ∃ g' cap', e = .returned (.slice (some ⟨g', 0, none⟩) n cap') ∧ w.heap.size ≤ g' ∧ live w' g' = true ∧ n ≤ cap' ∧ cap' ≤ maxLen ∧ (rowOf w' g').size = cap' ∧
      cut (rowOf w' g') 0 (n) = cut (rowOf w g) off (n) ∧ rowOf w' g' = cut (rowOf w g) off n ++ Builtin.zeroCells #[.int .u8 0] (cap' - n) ∧ Fr (fun _ => False) w w' := by
  have hg : g < w.heap.size := rowOf_lt (by omega)
  go_enter Try.func65, Try.ntmps65
  go_wp2_with (at_builtin; refine wpList_append_fresh rfl (.tmp 5) (.tmp 6) 36 rfl 5 _ 1 1 Try.underlying36 ti5 (some ⟨w.heap.size, 0, none⟩) g off n c rfl rfl (.inr ⟨_, rfl, live_alloc_at _ _ _ _ rfl⟩) hn (by rw [rowOf_alloc_lt _ _ _ hg]; omega) (by simp only [maxLen]; omega) (by omega) ?_; intro cap cur k1 k2 k3 k4 k5)
  go_ret
  refine ⟨w.heap.size + 1, cap, by simp, by omega, ?_, k1, k2, ?_, ?_, ?_, (((Fr.refl _ _).alloc _).alloc _).drew⟩
  · rw [live_drew]; exact live_alloc_at _ _ _ _ (by simp)
  · rw [rowOf_drew, rowOf_alloc_at _ _ _ _ _ (by simp)]; omega
  · rw [rowOf_drew, rowOf_alloc_at _ _ _ _ _ (by simp)]
    have := k4.out
    rw [rowOf_alloc_lt _ _ _ hg] at this
    simpa using this
  · rw [rowOf_drew, rowOf_alloc_at _ _ _ _ _ (by simp)]
    have := k5.out
    rw [rowOf_alloc_lt _ _ _ hg] at this
    simpa [Value.cells] using this

set_option maxHeartbeats 400000 in
theorem clone36_nil (w : World) (n c : Nat) :
    Calls Try.prog 65 #[.slice none n c] w fun e w' => e = .returned (.slice none 0 0) ∧ w = w' := by
  go_enter Try.func65, Try.ntmps65
  go_wp2
  go_ret
  exact ⟨rfl, rfl⟩

set_option maxHeartbeats 400000 in
theorem clone66_any (w : World) (g off n c : Nat) (hn : 0 < n) (hx : off + n * 64 ≤ (rowOf w g).size) (hb : n * 64 ≤ 281474976710656) :
    Calls Try.prog 73 #[.slice (some ⟨g, off, none⟩) n c] w fun e w' => ∃ g' cap', e = .returned (.slice (some ⟨g', 0, none⟩) n cap') ∧ w.heap.size ≤ g' ∧ live w' g' = true ∧ n ≤ cap' ∧ cap' ≤ maxLen ∧ (rowOf w' g').size = cap' * 64 ∧
      cut (rowOf w' g') 0 (n * 64) = cut (rowOf w g) off (n * 64) ∧ Fr (fun _ => False) w w' := by
  have hg : g < w.heap.size := rowOf_lt (by omega)
  go_enter Try.func73, Try.ntmps73
  go_wp2_with (at_builtin; refine wpList_append_fresh rfl (.tmp 5) (.tmp 6) 66 rfl 110 _ 64 64 Try.underlying66 ti110 (some ⟨w.heap.size, 0, none⟩) g off n c rfl rfl (.inr ⟨_, rfl, live_alloc_at _ _ _ _ rfl⟩) hn (by rw [rowOf_alloc_lt _ _ _ hg]; omega) (by simp only [maxLen]; omega) (by omega) ?_; intro cap cur k1 k2 k3 k4 k5)
  go_ret
  refine ⟨w.heap.size + 1, cap, by simp, by omega, ?_, k1, k2, ?_, ?_, (((Fr.refl _ _).alloc _).alloc _).drew⟩
  · rw [live_drew]; exact live_alloc_at _ _ _ _ (by simp)
  · rw [rowOf_drew, rowOf_alloc_at _ _ _ _ _ (by simp)]; omega
  · rw [rowOf_drew, rowOf_alloc_at _ _ _ _ _ (by simp)]
    have := k4.out
    rw [rowOf_alloc_lt _ _ _ hg] at this
    simpa using this

set_option maxHeartbeats 400000 in
theorem clone66_nil (w : World) (n c : Nat) :
    Calls Try.prog 73 #[.slice none n c] w fun e w' => e = .returned (.slice none 0 0) ∧ w = w' := by
  go_enter Try.func73, Try.ntmps73
  go_wp2
  go_ret
  exact ⟨rfl, rfl⟩

set_option maxHeartbeats 400000 in
theorem clone48_any (w : World) (g off n c : Nat) (hn : 0 < n) (hx : off + n ≤ (rowOf w g).size) (hb : n ≤ 140737488355328) :
    Calls Try.prog 74 #[.slice (some ⟨g, off, none⟩) n c] w fun e w' => ∃ g' cap', e = .returned (.slice (some ⟨g', 0, none⟩) n cap') ∧ w.heap.size ≤ g' ∧ live w' g' = true ∧ n ≤ cap' ∧ cap' ≤ maxLen ∧ (rowOf w' g').size = cap' ∧
      cut (rowOf w' g') 0 (n) = cut (rowOf w g) off (n) ∧ Fr (fun _ => False) w w' := by
  have hg : g < w.heap.size := rowOf_lt (by omega)
  go_enter Try.func74, Try.ntmps74
  go_wp2_with (at_builtin; refine wpList_append_fresh rfl (.tmp 5) (.tmp 6) 48 rfl 4 _ 1 1 Try.underlying48 ti4 (some ⟨w.heap.size, 0, none⟩) g off n c rfl rfl (.inr ⟨_, rfl, live_alloc_at _ _ _ _ rfl⟩) hn (by rw [rowOf_alloc_lt _ _ _ hg]; omega) (by simp only [maxLen]; omega) (by omega) ?_; intro cap cur k1 k2 k3 k4 k5)
  go_ret
  refine ⟨w.heap.size + 1, cap, by simp, by omega, ?_, k1, k2, ?_, ?_, (((Fr.refl _ _).alloc _).alloc _).drew⟩
  · rw [live_drew]; exact live_alloc_at _ _ _ _ (by simp)
  · rw [rowOf_drew, rowOf_alloc_at _ _ _ _ _ (by simp)]; omega
  · rw [rowOf_drew, rowOf_alloc_at _ _ _ _ _ (by simp)]
    have := k4.out
    rw [rowOf_alloc_lt _ _ _ hg] at this
    simpa using this

set_option maxHeartbeats 400000 in
theorem clone48_nil (w : World) (n c : Nat) :
    Calls Try.prog 74 #[.slice none n c] w fun e w' => e = .returned (.slice none 0 0) ∧ w = w' := by
  go_enter Try.func74, Try.ntmps74
  go_wp2
  go_ret
  exact ⟨rfl, rfl⟩

set_option maxHeartbeats 400000 in
theorem clone67_any (w : World) (g off n c : Nat) (hn : 0 < n) (hx : off + n * 65 ≤ (rowOf w g).size) (hb : n * 72 ≤ 281474976710656) :
    Calls Try.prog 75 #[.slice (some ⟨g, off, none⟩) n c] w fun e w' => ∃ g' cap', e = .returned (.slice (some ⟨g', 0, none⟩) n cap') ∧ w.heap.size ≤ g' ∧ live w' g' = true ∧ n ≤ cap' ∧ cap' ≤ maxLen ∧ (rowOf w' g').size = cap' * 65 ∧
      cut (rowOf w' g') 0 (n * 65) = cut (rowOf w g) off (n * 65) ∧ Fr (fun _ => False) w w' := by
  have hg : g < w.heap.size := rowOf_lt (by omega)
  go_enter Try.func75, Try.ntmps75
  go_wp2_with (at_builtin; refine wpList_append_fresh rfl (.tmp 5) (.tmp 6) 67 rfl 112 _ 65 72 Try.underlying67 ti112 (some ⟨w.heap.size, 0, none⟩) g off n c rfl rfl (.inr ⟨_, rfl, live_alloc_at _ _ _ _ rfl⟩) hn (by rw [rowOf_alloc_lt _ _ _ hg]; omega) (by simp only [maxLen]; omega) (by omega) ?_; intro cap cur k1 k2 k3 k4 k5)
  go_ret
  refine ⟨w.heap.size + 1, cap, by simp, by omega, ?_, k1, k2, ?_, ?_, (((Fr.refl _ _).alloc _).alloc _).drew⟩
  · rw [live_drew]; exact live_alloc_at _ _ _ _ (by simp)
  · rw [rowOf_drew, rowOf_alloc_at _ _ _ _ _ (by simp)]; omega
  · rw [rowOf_drew, rowOf_alloc_at _ _ _ _ _ (by simp)]
    have := k4.out
    rw [rowOf_alloc_lt _ _ _ hg] at this
    simpa using this

set_option maxHeartbeats 400000 in
theorem clone67_nil (w : World) (n c : Nat) :
    Calls Try.prog 75 #[.slice none n c] w fun e w' => e = .returned (.slice none 0 0) ∧ w = w' := by
  go_enter Try.func75, Try.ntmps75
  go_wp2
  go_ret
  exact ⟨rfl, rfl⟩

theorem zeroCells_u8 (n : Nat) : Builtin.zeroCells #[.int .u8 0] n = bvA (List.replicate n 0) := by
  apply Array.ext
  · simp [Builtin.zeroCells, bvA_size]
  · intro i h1 h2
    simp [Builtin.zeroCells, bvA, bv, Nat.mod_one]
theorem bvA_append (a b : List UInt8) : bvA (a ++ b) = bvA a ++ bvA b := by simp [bvA]

/-- Bytes in a row of their own, known to its end. -/
def OwnBytes (w : World) (v : Value) (b : List UInt8) (base : Nat) : Prop :=
  ∃ g ext, v = .slice (some ⟨g, 0, none⟩) b.length (b.length + ext.length) ∧ base ≤ g ∧ live w g = true ∧ b.length + ext.length ≤ maxLen ∧ rowOf w g = bvA (b ++ ext)

theorem OwnBytes.at_ {w : World} {v : Value} {b : List UInt8} {base : Nat} (h : OwnBytes w v b base) : BytesAt w v b := by
  obtain ⟨g, ext, rfl, h1, h2, h3, h4⟩ := h
  refine ⟨_, _, rfl, .inr ⟨g, 0, rfl, by rw [h4, bvA_size]; simp, ?_⟩⟩
  rw [h4]
  refine cut_ext (bvA_size b) (by rw [bvA_size]; simp) (fun i hi => ?_)
  rw [bvA_get, bvA_get, Nat.zero_add, List.getElem?_append_left hi]

theorem OwnBytes.lt {w : World} {v : Value} {b : List UInt8} {base : Nat} (h : OwnBytes w v b base) {k : Nat} (hk : v.ownBlock = some k) : base ≤ k ∧ k < w.heap.size := by
  obtain ⟨g, ext, rfl, h1, h2, h3, h4⟩ := h
  simp only [Value.ownBlock, Option.some.injEq] at hk
  subst hk
  exact ⟨h1, live_lt h2⟩

theorem OwnBytes.keep {w w' : World} {v : Value} {b : List UInt8} {base : Nat} (h : OwnBytes w v b base) {F : Nat → Prop} (hf : Fr F w w') (hF : ∀ k, v.ownBlock = some k → ¬ F k) : OwnBytes w' v b base := by
  obtain ⟨g, ext, rfl, h1, h2, h3, h4⟩ := h
  have hg := live_lt h2
  exact ⟨g, ext, rfl, h1, by rw [hf.liv hg (hF g rfl)]; exact h2, h3, by rw [hf.row hg (hF g rfl)]; exact h4⟩

/-- slices.Clone of bytes that are there. -/
theorem clone36_bytes (w : World) (g off c : Nat) (b : List UInt8) (hn : 0 < b.length) (hx : off + b.length ≤ (rowOf w g).size) (hc : cut (rowOf w g) off b.length = bvA b) (hb : b.length ≤ 140737488355328) :
    Calls Try.prog 65 #[.slice (some ⟨g, off, none⟩) b.length c] w fun e w' => ∃ v, e = .returned v ∧ OwnBytes w' v b w.heap.size ∧ Fr (fun _ => False) w w' := by
  refine (clone36_any w g off b.length c hn hx hb).mono ?_
  rintro e w' ⟨g', cap', rfl, h1, h2, h3, h4, h5, h6, h7, h8⟩
  refine ⟨_, rfl, ⟨g', List.replicate (cap' - b.length) 0, ?_, h1, h2, ?_, ?_⟩, h8⟩
  · simp; omega
  · simp; omega
  · rw [h7, hc, zeroCells_u8, bvA_append]

/-- The same at 64 bytes. -/
theorem clone36_64 (w : World) (g off c : Nat) (b : List UInt8) (hn : b.length = 64) (hx : off + 64 ≤ (rowOf w g).size) (hc : cut (rowOf w g) off 64 = bvA b) :
    Calls Try.prog 65 #[.slice (some ⟨g, off, none⟩) 64 c] w fun e w' => ∃ g' ext, e = .returned (.slice (some ⟨g', 0, none⟩) 64 (64 + ext)) ∧ OwnBytes w' (.slice (some ⟨g', 0, none⟩) 64 (64 + ext)) b w.heap.size ∧ Fr (fun _ => False) w w' := by
  rw [← hn] at hx hc ⊢
  refine (clone36_bytes w g off c b (by omega) hx hc (by omega)).mono ?_
  rintro e w' ⟨v, rfl, h, f⟩
  obtain ⟨g', ext, rfl, h'⟩ := h
  exact ⟨g', ext.length, rfl, ⟨g', ext, rfl, h'⟩, f⟩

end Go.Proofs.Ytflnlpbcmcfblaa
