/-
  (*Disk).Read.
-/
import Derived.Test.YtflnlpbcmcfblaaBack
namespace Go.Proofs.Ytflnlpbcmcfblaa
open Go.RowKit Go.Shelf
attribute [local go_sem] Oper.semAt_some

def ReadOut (w : World) (v : Value) (o : Option (List UInt8)) (base : Nat) : Prop :=
  match o with
  | none => v = .slice none 0 0
  | some b => OwnBytes w v b base

theorem grown_live {W W' : World} {row : Option Nat} {g : Nat} (h : live W g = true) (hg : W.grownBy W' row) (hrow : ∀ r, row = some r → ∃ o : Obj, W.heap[r]? = some o ∧ o.isCells = false) : W'.heap[g]? = W.heap[g]? := by
  obtain ⟨t, ht⟩ := live_obj h
  exact grownBy_keeps_cells hg hrow ht rfl

theorem Fr.grown {F : Nat → Prop} {w0 W W' : World} {row : Option Nat} (h : Fr F w0 W) (hg : W.grownBy W' row) (hr : ∀ r, row = some r → w0.heap.size ≤ r) : Fr F w0 W' :=
  ⟨hg.os.trans h.os, hg.tape.trans h.tape, hg.output.trans h.output, Nat.le_trans h.size hg.size, fun k hk hF => (hg.block k (by have := h.size; omega) (fun e => by have := hr k e.symm; omega)).trans (h.block k hk hF)⟩

theorem OwnBytes.grown {W W' : World} {v : Value} {b : List UInt8} {base : Nat} {row : Option Nat} (h : OwnBytes W v b base) (hg : W.grownBy W' row) (hrow : ∀ r, row = some r → ∃ o : Obj, W.heap[r]? = some o ∧ o.isCells = false) : OwnBytes W' v b base := by
  obtain ⟨g, ext, rfl, h1, h2, h3, h4⟩ := h
  have := grown_live h2 hg hrow
  exact ⟨g, ext, rfl, h1, by rw [live_congr this]; exact h2, h3, by rw [rowOf_congr this]; exact h4⟩

theorem Fr.keepsFrom {F : Nat → Prop} {W W' : World} {B : Nat} (h : Fr F W W') (hF : ∀ k, B ≤ k → ¬ F k) : KeepsFrom B W W' :=
  ⟨h.size, fun k _ hB hk _ => (h.block k (Array.getElem?_eq_some_iff.1 hk).1 (hF k hB)).trans hk⟩

/-- The world when Read has laid its three cells. -/
def rdW (w : World) (n : Int) : World := ((w.alloc (.cells #[.int .i64 n] 3)).alloc (.cells #[.slice none 0 0] 36)).alloc (.cells #[.int .i64 0] 26)
theorem rdW_fr (w : World) (n : Int) : Fr (fun _ => False) w (rdW w n) := ((Fr.refl (fun _ => False) w).alloc _).alloc _ |>.alloc _

set_option maxHeartbeats 1000000 in
theorem read_err (w : World) (p : DP) (S : DS) (h : DiskRep w p S) (n : Int) (hr : S.ready n ≠ 0) :
    Calls Try.prog 25 #[.pointer (some ⟨p.d, 0, none⟩), .int .i64 n] w fun e w' => e = .returned (.tuple #[.slice none 0 0, .int .i64 (S.ready n)]) ∧ Fr (fun _ => False) w w' := by
  obtain ⟨cb, ct, hd, hx⟩ := h.ex
  have n0 := h.ok.n0
  have hld := live_lt hd.liv
  have H := Lib.hid (hd.keep (rdW_fr w n) (fun h => h))
  have hr2 : ((S.ready n) == 0) = false := by simpa using hr
  clear h hx hd
  unfold DS.ready at *
  obtain ⟨q, hq⟩ : ∃ q, readyI S.off n S.data.length = q := ⟨_, rfl⟩
  rw [hq] at hr2 hr
  have HQ := Lib.hid hq
  rw [hq]
  clear hq
  have F0 := Lib.hid (rdW_fr w n)
  go_enter Try.func25, Try.ntmps25
  go_wp2_with fail
  refine (ready_any _ _ _ _ _ _ _ _ _ _ _ _ H.out n0 _).mono ?_
  rintro e w' ⟨rfl, rfl⟩
  rw [HQ.out]
  unfold rdW
  go_wp2
  refine bodyPost_ret (v := .tuple #[.slice none 0 0, .int .i64 q]) (by simp [results, Try.results25, go_sem]) rfl ?_
  refine ⟨rfl, ?_⟩
  exact (((((Fr.refl (fun _ => False) w).alloc _).alloc _).alloc _).setNew (by omega) _).setNew (by omega) _

/-- A round has found the block. -/
def rdX (W0 : World) (N : Nat) (k : Nat) (c : Code) (pre : List BRow) (W : World) : Prop :=
  c = .ret ∧ ∃ (pre0 : List BRow) (x : BRow) (v : Value), pre = pre0 ++ [x] ∧ (∀ y ∈ pre0, y.n ≠ k) ∧ x.n = k ∧ (rowOf W (N + 1) = #[v] ∧ live W (N + 1) = true) ∧ (rowOf W (N + 1 + 1) = #[.int .i64 0] ∧ live W (N + 1 + 1) = true) ∧
    OwnBytes W v x.b N ∧ Fr (fun i => i = N + 1 ∨ i = N + 1 + 1) W0 W

theorem rdX_own (W0 : World) (N k : Nat) (c : Code) : OwnFrom W0.heap.size (rdX W0 N k c) := by
  rintro pre W W' row ⟨hc, pre0, x, v, h1, h2, h3, ⟨h4, h5⟩, ⟨h6, h7⟩, h8, h9⟩ hg hr
  have hr2 := fun r e => (hr r e).2
  have e1 := grown_live h5 hg hr2
  have e2 := grown_live h7 hg hr2
  exact ⟨hc, pre0, x, v, h1, h2, h3, ⟨by rw [rowOf_congr e1]; exact h4, by rw [live_congr e1]; exact h5⟩, ⟨by rw [rowOf_congr e2]; exact h6, by rw [live_congr e2]; exact h7⟩, h8.grown hg hr2, h9.grown hg (fun r e => (hr r e).1)⟩

/-- What a round's body begins with: the loop variable's box. -/
def rdA (B : Nat) (mk : Nat → BRow → Act) (x : BRow) (a : Act) (W : World) : Prop := ∃ Bx, B ≤ Bx ∧ rowOf W Bx = wrC (x.n : Int) (bvA x.b) ∧ live W Bx = true ∧ a = mk Bx x
theorem rdA_own (B : Nat) (mk : Nat → BRow → Act) (x : BRow) (a : Act) : OwnFrom B (fun (_ : Unit) W => rdA B mk x a W) := by
  rintro _ W W' row ⟨Bx, h1, h2, h3, h4⟩ hg hr
  have e1 := grown_live h3 hg (fun r e => (hr r e).2)
  exact ⟨Bx, h1, by rw [rowOf_congr e1]; exact h2, by rw [live_congr e1]; exact h3, h4⟩

theorem putObj_row {W : World} {D g : Nat} {o : Obj} (h : g ≠ D) : rowOf (W.putObj D o) g = rowOf W g := rowOf_congr (World.putObj_heap_other h)
theorem putObj_live {W : World} {D g : Nat} {o : Obj} (h : g ≠ D) : live (W.putObj D o) g = live W g := live_congr (World.putObj_heap_other h)

theorem Fr.putAt {F : Nat → Prop} {a w : World} (h : Fr F a w) (D : Nat) (o : Obj) (hD : F D) : Fr F a (w.putObj D o) :=
  ⟨h.os, h.tape, h.output, by have := h.size; simpa using this, fun k hk hF => (World.putObj_heap_other (fun e => hF (by rw [e]; exact hD))).trans (h.block k hk hF)⟩

theorem read_end {W : World} {D N : Nat} {t : Array Value} {v : Value} {q : Int} {R : Ending → World → Prop} (h4 : t[4]? = some (.pointer (some ⟨N + 1, 0, none⟩))) (h5 : t[5]? = some (.pointer (some ⟨N + 1 + 1, 0, none⟩)))
    (r1 : rowOf W (N + 1) = #[v]) (l1 : live W (N + 1) = true) (r2 : rowOf W (N + 1 + 1) = #[.int .i64 q]) (l2 : live W (N + 1 + 1) = true) (hD : N + 1 + 1 < D) (hK : W.heap[D]? = some (.deferred (some [])))
    (hR : R (.returned (.tuple #[v, .int .i64 q])) (W.putObj D (.deferred none))) :
    bodyPostM Fence.wide 9 Try.prog Try.f25 R Exit.ret { tmps := t, defers := [{ target := Target.collected D, args := #[] }] } W := by
  refine ⟨by simp, .inl ⟨_, _, rfl, run_takeDeferred hK, ?_⟩⟩
  refine ⟨.tuple #[v, .int .i64 q], ?_, hR⟩
  have e1 := (putObj_row (W := W) (D := D) (g := N + 1) (o := .deferred none) (by omega)).trans r1
  have e2 := (putObj_row (W := W) (D := D) (g := N + 1 + 1) (o := .deferred none) (by omega)).trans r2
  have e3 := (putObj_live (W := W) (D := D) (g := N + 1) (o := .deferred none) (by omega)).trans l1
  have e4 := (putObj_live (W := W) (D := D) (g := N + 1 + 1) (o := .deferred none) (by omega)).trans l2
  simp [results, Try.results25, go_sem, h4, h5, e1, e2]

/-- What the body of Read must reach. -/
def rdPost (N : Nat) (R : Ending → World → Prop) : Exit → Act → World → Prop
  | .ret, a, W => ∃ D v q, a.defers = [{ target := Target.collected D, args := #[] }] ∧ a.tmps[4]? = some (.pointer (some ⟨N + 1, 0, none⟩)) ∧ a.tmps[5]? = some (.pointer (some ⟨N + 1 + 1, 0, none⟩)) ∧
      (rowOf W (N + 1) = #[v] ∧ live W (N + 1) = true) ∧ (rowOf W (N + 1 + 1) = #[.int .i64 q] ∧ live W (N + 1 + 1) = true) ∧ N + 1 + 1 < D ∧ W.heap[D]? = some (.deferred (some [])) ∧
      R (.returned (.tuple #[v, .int .i64 q])) (W.putObj D (.deferred none))
  | _, _, _ => False

theorem rdPost_out {N : Nat} {R : Ending → World → Prop} : ∀ e a W, rdPost N R e a W → bodyPostM Fence.wide 9 Try.prog Try.f25 R e a W
  | .ret, ⟨t, ds⟩, W, ⟨D, v, q, h1, h2, h3, ⟨h4, h5⟩, ⟨h6, h7⟩, h8, h9, h10⟩ => by
    obtain rfl : ds = _ := h1
    exact read_end h2 h3 h4 h5 h6 h7 h8 h9 h10
  | .normal, _, _, h => h.elim
  | .exit _, _, _, h => h.elim
  | .goto _, _, _, h => h.elim
  | .panic _, _, _, h => h.elim
  | .outgrown, _, _, h => h.elim

theorem lastOf_none {l : List (Nat × List UInt8)} {k : Nat} {xs : List BRow} (h : xs.map BRow.key = l.reverse) (hno : ∀ y ∈ xs, y.n ≠ k) : DS.lastOf l k = none := by
  unfold DS.lastOf
  rw [← h, List.find?_eq_none.2]
  · rfl
  · intro q hq
    obtain ⟨y, hy, rfl⟩ := List.mem_map.1 hq
    simpa [BRow.key] using hno y hy

theorem lastOf_some {l : List (Nat × List UInt8)} {k j : Nat} {pre : List BRow} {x : BRow} (h : (pre ++ [x]).map BRow.key = (l.drop j).reverse) (hno : ∀ y ∈ pre, y.n ≠ k) (hx : x.n = k) : DS.lastOf l k = some x.b := by
  unfold DS.lastOf
  have e : l.reverse = (l.drop j).reverse ++ (l.take j).reverse := by rw [← List.reverse_append, List.take_append_drop]
  rw [e, ← h, List.map_append, List.append_assoc, List.find?_append, List.find?_eq_none.2]
  · simp [BRow.key, hx]
  · intro q hq
    obtain ⟨y, hy, rfl⟩ := List.mem_map.1 hq
    simpa [BRow.key] using hno y hy

theorem read_some {S : DS} {k : Nat} (hr : S.ready k = 0) {b : List UInt8} (h : DS.lastOf S.pend k = some b) : S.read k = (0, some b) := by
  unfold DS.read
  rw [if_neg (by rw [hr]; simp), Int.toNat_natCast, h]
theorem read_none {S : DS} {k : Nat} (hr : S.ready k = 0) (h : DS.lastOf S.pend k = none) : S.read k = if S.torn[k]?.getD false then (23, none) else (0, some (S.data[k]?.getD [])) := by
  unfold DS.read
  rw [if_neg (by rw [hr]; simp), Int.toNat_natCast, h]

set_option maxRecDepth 100000 in
set_option maxHeartbeats 2000000 in
theorem read_ok (w : World) (p : DP) (S : DS) (h : DiskRep w p S) (k : Nat) (hr : S.ready k = 0) :
    Calls Try.prog 25 #[.pointer (some ⟨p.d, 0, none⟩), .int .i64 k] w fun e w' => ∃ v, e = .returned (.tuple #[v, .int .i64 (S.read k).1]) ∧ ReadOut w' v (S.read k).2 w.heap.size ∧ Fr (fun _ => False) w w' := by
  refine callsIn_wide.1 (callsIn_of_wp_marks (n := 9) Try.func25 rfl trivial ?_ rfl)
  simp only [Try.ntmps25, List.size_toArray, List.length_cons, List.length_nil, Nat.reduceAdd, Nat.reduceSub, Array.replicate_succ, Array.replicate_zero, List.push_toArray, List.append_toArray, List.nil_append, List.cons_append]
  refine wpIn_wide.2 ?_
  refine wp_mono ?_ (rdPost_out (N := w.heap.size))
  obtain ⟨cb, ct, hd, hx⟩ := h.ex
  have n0 := h.ok.n0
  have hld := live_lt hd.liv
  have H := Lib.hid (hd.keep (rdW_fr w k) (fun h => h))
  have hrow := (hd.keep (rdW_fr w k) (fun h => h)).row
  have HH := Lib.hid h
  have HR := Lib.hid hr
  obtain ⟨a, len, cap, hpv⟩ : ∃ a len cap, p.pv = .slice a len cap := by
    rcases h.rp with ⟨e, _⟩ | ⟨g, c, e, _⟩
    · exact ⟨_, _, _, e⟩
    · exact ⟨_, _, _, e⟩
  rw [hpv] at hrow
  have HPV := Lib.hid hpv
  clear h hx hd hr hpv
  go_wp2_with fail
  refine (ready_any _ _ _ _ _ _ _ _ _ _ _ _ H.out n0 k).mono ?_
  rintro e w' ⟨rfl, rfl⟩
  rw [show readyI S.off k S.data.length = 0 from HR.out]
  unfold rdW at hrow ⊢
  go_wp2_with fail
  refine (backward_any _ a len cap).mono ?_
  rintro e w' ⟨rfl, rfl⟩
  clear hrow
  go_wp2_with fail
  obtain ⟨W0, hW0⟩ : ∃ W0, (((w.alloc (Obj.cells #[Value.int IntKind.i64 k] 3)).alloc (Obj.cells #[Value.slice none 0 0] 36)).alloc (Obj.cells #[Value.int IntKind.i64 0] 26)).alloc (Obj.cells #[Value.slice a len cap] 67) = W0 := ⟨_, rfl⟩
  have hsz : W0.heap.size = w.heap.size + 1 + 1 + 1 + 1 := by rw [← hW0]; simp
  have hF0 : Fr (fun _ => False) w W0 := by rw [← hW0]; exact (((Fr.refl (fun _ => False) w).alloc _).alloc _).alloc _ |>.alloc _
  have hc0 : rowOf W0 w.heap.size = #[.int .i64 k] ∧ live W0 w.heap.size = true := by rw [← hW0]; simp [go_sem]
  have hc1 : rowOf W0 (w.heap.size + 1) = #[.slice none 0 0] ∧ live W0 (w.heap.size + 1) = true := by rw [← hW0]; simp [go_sem]
  have hc2 : rowOf W0 (w.heap.size + 1 + 1) = #[.int .i64 0] ∧ live W0 (w.heap.size + 1 + 1) = true := by rw [← hW0]; simp [go_sem]
  have hc3 : rowOf W0 (w.heap.size + 1 + 1 + 1) = #[.slice a len cap] ∧ live W0 (w.heap.size + 1 + 1 + 1) = true := by rw [← hW0]; simp [go_sem]
  have HC0 := Lib.hid hc0
  have HC1 := Lib.hid hc1
  have HC2 := Lib.hid hc2
  have HF0 := Lib.hid hF0
  rw [hW0]
  clear hW0 H
  have hown : ∀ j, (Value.slice a len cap).ownBlock = some j → j < W0.heap.size := fun j hj => by
    have := live_lt (HH.out.rp.own (k := j) (by rw [HPV.out]; exact hj))
    omega
  refine (wpIn_wide (n := 9)).1 ?_
  refine wpIn_rangeFunc_ownH (w0 := W0) (gf := 92) (lb := #[.pointer (some ⟨w.heap.size + 1 + 1 + 1, 0, none⟩)]) rfl (by omega) rfl trivial (enters_of Try.func92 (by kernel_rfl) rfl)
    (back_stops _ _ W0.heap.size (by omega) _ S.pend W0 hc3.1 hc3.2 (by omega) (Nat.le_refl _) (HPV.out ▸ (HH.out.keep hF0 (fun _ _ h => h)).rp) hown (fun q hq => (HH.out.ok.pe q hq).2))
    belowK_t (belowK_b (Nat.le_refl _)) (Below.refl _ _) (fun _ => rfl)
    (fun pre W => Below W0.heap.size W0 W ∧ ∀ y ∈ pre, y.n ≠ k) (rdX W0 w.heap.size k) (OwnFrom.and (ownFrom_below (Nat.le_refl _) (Nat.le_refl _)) (ownFrom_pure _ _)) (rdX_own W0 _ k) ⟨Below.refl _ _, by simp⟩
    (rdA W0.heap.size (fun Bx x => {
      tmps :=
        #[Value.pointer (some { block := p.d, off := 0 }), Value.int IntKind.i64 ↑k, undef,
          Value.pointer (some { block := w.heap.size, off := 0 }),
          Value.pointer (some { block := w.heap.size + 1, off := 0 }),
          Value.pointer (some { block := w.heap.size + 1 + 1, off := 0 }), Value.int IntKind.i64 0, undef, .pointer (some { block := Bx, off := 0 }),
          Value.pointer (some { block := p.d, off := 0 }), Value.int IntKind.i64 ↑k, Value.int IntKind.i64 0,
          Value.int IntKind.i64 0, Value.bool false, undef, Value.pointer (some { block := p.d, off := 0 }),
          Value.pointer (some { block := p.d, off := 0 }), Value.pointer (some { block := p.d, off := 2 }),
          Value.slice a len cap,
          Value.func (Fn.func 92) #[] #[Value.pointer (some { block := w.heap.size + 1 + 1 + 1, off := 0 })], .int .i64 x.i,
          .agg (wrC (x.n : Int) (bvA x.b)), undef, undef, undef, undef, undef, undef, undef, undef, undef, undef, undef, undef, undef, undef,
          undef, undef, undef, undef, undef, undef, undef, undef],
      defers := [] })) (rdA_own _ _) ?assign ?body ?done ?stop
  case assign =>
    intro l pre x W K hI hK
    have s65 : (wrC (x.n : Int) (bvA x.b)).size = 65 := by rw [wrC_size, bvA_size, x.hb]
    have o65 : ones (wrC (x.n : Int) (bvA x.b)) := wrC_ones (bvA_ones x.b)
    dsimp only [BRow.encs]
    gi_wp2
    exact hK _ _ ((KeepsOthers.alloc W _).from _) ((Below.refl _ W).alloc hI.1.size _) ⟨hI.1.alloc hI.1.size _, hI.2⟩ ⟨W.heap.size, hI.1.size, by simp [go_sem], by simp [go_sem], rfl⟩
  case body =>
    rintro l pre x a' W hl hrec ⟨hB, hno⟩ ⟨Bx, hBx, hrx, hlx, rfl⟩ hlt
    have r0 : rowOf W w.heap.size = _ := (Below.row hB (by omega)).trans HC0.out.1
    have l0 : live W w.heap.size = true := (Below.liv hB (by omega)).trans HC0.out.2
    have l1 : live W (w.heap.size + 1) = true := (Below.liv hB (by omega)).trans HC1.out.2
    have r1 : rowOf W (w.heap.size + 1) = _ := (Below.row hB (by omega)).trans HC1.out.1
    have l2 : live W (w.heap.size + 1 + 1) = true := (Below.liv hB (by omega)).trans HC2.out.2
    have r2 : rowOf W (w.heap.size + 1 + 1) = _ := (Below.row hB (by omega)).trans HC2.out.1
    have s65 : (wrC (x.n : Int) (bvA x.b)).size = 65 := by rw [wrC_size, bvA_size, x.hb]
    have hwx := live_lt hlx
    have HB := Lib.hid hB
    have HNO := Lib.hid hno
    by_cases hk : x.n = k
    · have hkk : ((x.n : Int) == (k : Int)) = true := by simp [hk]
      have HK := Lib.hid hk
      have hc64 : cut (rowOf W Bx) 1 64 = bvA x.b := by rw [hrx]; exact wrC_cut _ _ (by rw [bvA_size, x.hb])
      have HC64 := Lib.hid hc64
      have HS := Lib.hid (show 1 + 64 ≤ (rowOf W Bx).size by rw [hrx, s65]; omega)
      clear hB hno hk hc64
      gi_wp2_with fail
      refine ⟨trivial, ?_⟩
      refine (CallsIn.inRound l (callsIn_wide.2 (clone36_64 W Bx 1 64 x.b x.hb HS.out HC64.out))).mono ?_
      rintro e w3 ⟨g3, ext, rfl, hb3, f3⟩
      have HB3 := Lib.hid hb3
      have F3 := Lib.hid f3
      have hWs := HB.out.size
      have q1 := (f3.row (g := w.heap.size + 1) (by omega) (fun h => h)).trans r1
      have q2 := (f3.row (g := w.heap.size + 1 + 1) (by omega) (fun h => h)).trans r2
      have m1 := (f3.liv (g := w.heap.size + 1) (by omega) (fun h => h)).trans l1
      have m2 := (f3.liv (g := w.heap.size + 1 + 1) (by omega) (fun h => h)).trans l2
      clear r1 r2 l1 l2 hb3 f3 r0 l0
      gi_wp2
      have FW : Fr (fun i => i = w.heap.size + 1 ∨ i = w.heap.size + 1 + 1) W ((w3.setRow (w.heap.size + 1) #[Value.slice (some { block := g3, off := 0 }) 64 (64 + ext)]).setRow (w.heap.size + 1 + 1) #[Value.int IntKind.i64 0]) :=
        ((F3.out.mono (fun _ _ h => h.elim)).setRow _ _ (fun _ => .inl rfl)).setRow _ _ (fun _ => .inr rfl)
      have hg3 := (HB3.out.lt (k := g3) rfl).1
      refine ⟨FW.keepsFrom (fun k hk e => by omega), rfl, pre, x, .slice (some ⟨g3, 0, none⟩) 64 (64 + ext), rfl, HNO.out, HK.out, ?_, ?_, ?_, ?_⟩
      · exact ⟨by simp [go_sem, m1], by simp [go_sem, m1]⟩
      · exact ⟨by simp [go_sem, m2], by simp [go_sem, m2]⟩
      · refine OwnBytes.weaken (HB3.out.keep (F := fun i => i = w.heap.size + 1 ∨ i = w.heap.size + 1 + 1) (((Fr.refl _ w3).setRow _ _ (fun _ => .inl rfl)).setRow _ _ (fun _ => .inr rfl)) (fun k hk => ?_)) (by omega)
        have : g3 = k := by simpa [Value.ownBlock] using hk
        omega
      · exact ((Below.fr HB.out).mono (fun _ _ h => h.elim)).trans FW (fun _ _ h => h)
    · have hkk : ((x.n : Int) == (k : Int)) = false := by simp; omega
      have HK := Lib.hid hk
      clear hB hno hk
      gi_wp2
      refine ⟨(Fr.refl (fun _ => False) W).keepsFrom (fun _ _ h => h), Below.refl _ _, HB.out, fun y hy => ?_⟩
      rcases List.mem_append.1 hy with h | h
      · exact HNO.out y h
      · simp at h; subst h; exact HK.out
  case done =>
    rintro D xs W hD hxs ⟨hB, hno⟩ hK
    have HB := Lib.hid hB
    have HNO := Lib.hid hno
    have HXS := Lib.hid hxs
    have HKD := Lib.hid hK
    have r0 : rowOf W w.heap.size = _ := (Below.row hB (by omega)).trans HC0.out.1
    have l0 : live W w.heap.size = true := (Below.liv hB (by omega)).trans HC0.out.2
    have l1 : live W (w.heap.size + 1) = true := (Below.liv hB (by omega)).trans HC1.out.2
    have r1 : rowOf W (w.heap.size + 1) = _ := (Below.row hB (by omega)).trans HC1.out.1
    have l2 : live W (w.heap.size + 1 + 1) = true := (Below.liv hB (by omega)).trans HC2.out.2
    have r2 : rowOf W (w.heap.size + 1 + 1) = _ := (Below.row hB (by omega)).trans HC2.out.1
    have FB := Lib.hid (HF0.out.trans (Below.fr hB) (fun _ _ h => h))
    have HR2 := Lib.hid (HH.out.keep FB.out (fun _ _ h => h))
    have hkn := (readyI_zero.1 (show readyI S.off k S.data.length = 0 from HR.out)).2.2
    have hk1 : k < S.data.length := by omega
    have hk2 : k < S.torn.length := by rw [HH.out.ok.tl]; exact hk1
    have hsz2 := HR2.out.rb k hk1
    have hlb := HR2.out.lb
    obtain ⟨cb, ct, hd, hcb, hct, hsb, hst⟩ := HR2.out.ex
    obtain ⟨rd, ld⟩ := hd
    have hrt := HR2.out.rt k hk2
    have hdw := live_lt ld
    clear hB hno hxs hK
    cases ht : S.torn[k] with
    | true =>
      rw [ht] at hrt
      have HT := Lib.hid ht
      clear ht
      go_wp2
      go_region
      go_wp2
      have hread : S.read k = (23, none) := by
        rw [read_none HR.out (lastOf_none HXS.out HNO.out), List.getElem?_eq_getElem hk2, HT.out]; rfl
      have FW : Fr (fun _ => False) w (((W.setRow (w.heap.size + 1) #[Value.slice none 0 0]).setRow (w.heap.size + 1 + 1) #[Value.int IntKind.i64 23]).drew) := ((FB.out.setNew (by omega) _).setNew (by omega) _).drew
      refine ⟨D, .slice none 0 0, 23, rfl, rfl, rfl, ⟨by simp [go_sem, l1], by simp [go_sem, l1]⟩, ⟨by simp [go_sem, l2], by simp [go_sem, l2]⟩, by omega, ?_, .slice none 0 0, ?_, ?_, ?_⟩
      · exact (setRow_other _ _ _ _ (by omega)).trans ((setRow_other _ _ _ _ (by omega)).trans HKD.out)
      · rw [hread]
      · rw [hread]; rfl
      · exact FW.grown (grownBy_putObj' _ D _) (fun r e => by cases e; omega)
    | false =>
      rw [ht] at hrt
      have HT := Lib.hid ht
      have HG := Lib.hid hsz2
      have hb64 := HH.out.ok.dl _ (List.getElem_mem hk1)
      have HSB := Lib.hid (show k * 64 + 64 ≤ (rowOf W p.gb).size by rw [hsb]; have := Nat.mul_le_mul_right 64 (Nat.le_trans hk1 hcb); omega)
      clear ht
      go_wp2
      go_region
      go_wp2
      go_region_law (first | fail | (go_simp; go_at_call 65; refine (clone36_64 _ p.gb (k * 64) _ S.data[k] hb64 (by simp only [rowOf_drew]; exact HSB.out) (by simp only [rowOf_drew]; exact HG.out)).mono ?_; rintro e w3 ⟨g3, ext, rfl, hb3, f3⟩; have HB3 := Lib.hid hb3; have F3 := Lib.hid f3; have hWs := HB.out.size; have hsz3 : W.heap.size ≤ w3.heap.size := f3.size; have q1 := (f3.row (g := w.heap.size + 1) (show w.heap.size + 1 < W.heap.size by omega) (fun h => h)).trans r1; have q2 := (f3.row (g := w.heap.size + 1 + 1) (show w.heap.size + 1 + 1 < W.heap.size by omega) (fun h => h)).trans r2; have m1 := (f3.liv (g := w.heap.size + 1) (show w.heap.size + 1 < W.heap.size by omega) (fun h => h)).trans l1; have m2 := (f3.liv (g := w.heap.size + 1 + 1) (show w.heap.size + 1 + 1 < W.heap.size by omega) (fun h => h)).trans l2; clear hb3 f3))
      all_goals
        go_wp2
        have hread : S.read k = (0, some S.data[k]) := by
          rw [read_none HR.out (lastOf_none HXS.out HNO.out), List.getElem?_eq_getElem hk2, List.getElem?_eq_getElem hk1, HT.out]; rfl
        have F3W : Fr (fun _ => False) W w3 := ⟨F3.out.os, F3.out.tape, F3.out.output, F3.out.size, F3.out.block⟩
        have hg3 := (HB3.out.lt (k := g3) rfl).1
        have hg3' : W.heap.size ≤ g3 := hg3
        refine ⟨D, .slice (some ⟨g3, 0, none⟩) 64 (64 + ext), 0, rfl, rfl, rfl, ⟨by simp [go_sem, m1], by simp [go_sem, m1]⟩, ⟨by simp [go_sem, m2], by simp [go_sem, m2]⟩, by omega, ?_, .slice (some ⟨g3, 0, none⟩) 64 (64 + ext), ?_, ?_, ?_⟩
        · have hDW : D < W.heap.size := (Array.getElem?_eq_some_iff.1 HKD.out).1
          exact (setRow_other _ _ _ _ (by omega)).trans ((setRow_other _ _ _ _ (by omega)).trans ((F3W.block D hDW (fun h => h)).trans HKD.out))
        · rw [hread]
        · rw [hread]
          have hDW : D < W.heap.size := (Array.getElem?_eq_some_iff.1 HKD.out).1
          refine OwnBytes.weaken (HB3.out.keep (F := fun i => i = w.heap.size + 1 ∨ i = w.heap.size + 1 + 1 ∨ i = D) (((Fr.refl _ w3).setRow _ _ (fun _ => .inl rfl)).setRow _ _ (fun _ => .inr (.inl rfl)) |>.putAt _ _ (.inr (.inr rfl))) (fun k hk => ?_)) (show w.heap.size ≤ W.heap.size by omega)
          have : g3 = k := by simpa [Value.ownBlock] using hk
          omega
        · exact ((((FB.out.trans F3W (fun _ _ h => h)).setNew (by omega) _).setNew (by omega) _)).grown (grownBy_putObj' _ D _) (fun r e => by cases e; omega)
  case stop =>
    rintro D c pre W hD ⟨j, hpre⟩ hX hK
    obtain ⟨rfl, pre0, x, v, rfl, hno, hxk, ⟨r1, l1⟩, ⟨r2, l2⟩, hb, hf⟩ := hX
    refine wpIn_wide.2 ?_
    have hread : S.read k = (0, some x.b) := read_some HR.out (lastOf_some hpre hno hxk)
    go_wp2
    refine ⟨D, v, 0, rfl, rfl, rfl, ⟨r1, l1⟩, ⟨r2, l2⟩, by omega, hK, v, ?_, ?_, ?_⟩
    · rw [hread]
    · rw [hread]; exact hb.grown (grownBy_putObj' _ D _) (fun r e => by cases e; exact ⟨_, hK, rfl⟩)
    · exact (HF0.out.trans hf (fun i hi e => by omega)).grown (grownBy_putObj' _ D _) (fun r e => by cases e; omega)

theorem read_any (w : World) (p : DP) (S : DS) (h : DiskRep w p S) (n : Int) :
    Calls Try.prog 25 #[.pointer (some ⟨p.d, 0, none⟩), .int .i64 n] w fun e w' => ∃ v, e = .returned (.tuple #[v, .int .i64 (S.read n).1]) ∧ ReadOut w' v (S.read n).2 w.heap.size ∧ Fr (fun _ => False) w w' := by
  by_cases hr : S.ready n = 0
  · have hn := (readyI_zero.1 (show readyI S.off n S.data.length = 0 from hr)).2.1
    obtain ⟨k, rfl⟩ : ∃ k : Nat, n = k := ⟨n.toNat, by omega⟩
    exact read_ok w p S h k hr
  · refine (read_err w p S h n hr).mono ?_
    rintro e w' ⟨rfl, f⟩
    have e1 : S.read n = (S.ready n, none) := by unfold DS.read; rw [if_pos hr]
    exact ⟨_, by rw [e1], by rw [e1]; rfl, f⟩

end Go.Proofs.Ytflnlpbcmcfblaa
