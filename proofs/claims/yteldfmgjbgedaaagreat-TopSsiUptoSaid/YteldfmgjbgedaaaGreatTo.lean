/-
  slices.Sorted over slices.Values: proved by a walk.
-/
import Derived.Test.YteldfmgjbgedaaaGreatTj
import Derived.Test.YteldfmgjbgedaaaGreatTn
namespace Go.Proofs.YteldfmgjbgedaaaGreat
open Go.RowKit Go.Maps Go.Shelf

attribute [local go_sem] Oper.semAt_some

theorem wpListIn_append_one {F : Fence} {n : Nat} {w : World} {ops : Array Oper} {rest : List Oper} {o : Oper} {a : Act} {Q : Exit → Act → World → Prop} (hgd : o.guard = none) (s y : Operand) (t : TypeId)
    (ho : o.op = .call { callee := .builtin .append, args := #[s, y], argTypes := #[t, t] }) (e : TypeId) (z : Value) (size bytes : Nat) (ht : Tryz.prog.underlying t = some (.slice e)) (hti : TI e z size bytes)
    (v : Value) (xs : List (Array Value)) (base : Nat) (hs : a.eval s = v) (h : OwnRows w v size xs base) (hbase : base ≤ w.heap.size) (gx c1 : Nat) (hy : a.eval y = .slice (some ⟨gx, 0, none⟩) 1 c1)
    (x : Array Value) (hx : size ≤ (rowOf w gx).size) (hx2 : cut (rowOf w gx) 0 size = x) (h1 : ones x) (hxs : ∀ y ∈ xs, y.size = size)
    (hm : xs.length + 1 ≤ maxLen) (hfit : Builtin.nextslicecap (xs.length + 1) xs.length * bytes ≤ 281474976710656)
    (hK : ∀ g' cap' w', OwnRows w' (.slice (some ⟨g', 0, none⟩) (xs.length + 1) cap') size (xs ++ [x]) base → Fr (fun i => v.ownBlock = some i) w w' → (v.ownBlock = some g' ∨ w.heap.size ≤ g') →
      wpListIn F n Tryz.prog ops Q rest (a.put o.dst (.slice (some ⟨g', 0, none⟩) (xs.length + 1) cap')) w') :
    wpListIn F n Tryz.prog ops Q (o :: rest) a w := by
  obtain ⟨g', cap', w', hrun, a1, a2, a3⟩ := run_append_one o.type ht hti h hbase gx c1 x hx hx2 h1 hxs hm hfit
  refine wpListIn_plain hgd fun K hk => ?_
  unfold Oper.wpIn
  refine ⟨?_, ?_⟩
  · simp [Oper.about, ho, resolve, Target.leads, Sem.run_pure]
  · rw [Oper.semAt_plain F _ _ (by rw [ho]; intro c hc'; cases hc')]
    simp [execOp, ho, resolve, invoke, builtin, hs, hy, hrun, Result.andThen]
    exact hk _ _ (hK g' cap' w' a1 a2 a3)

/-! ### what turned is cells -/
theorem fr_keeps {W W' : World} {F : Nat → Prop} (hf : Fr F W W') (hF : ∀ k, k < W.heap.size → F k → live W k = true) : KeepsOthers W W' := ⟨hf.size, fun k o hk ho => by
  have hlt := (Array.getElem?_eq_some_iff.1 hk).1
  by_cases e : F k
  · obtain ⟨t, ht⟩ := live_obj (hF k hlt e)
    rw [hk] at ht; cases ht; cases ho
  · exact (hf.block k hlt e).trans hk⟩
theorem keeps_walks {W W' : World} (h : KeepsOthers W W') : KeepsWalks W W' := ⟨h.size, fun k o hk ho => h.same k o hk (Obj.not_cells_of_walk ho)⟩
theorem fr_below {W W' : World} {F : Nat → Prop} {B : Nat} (hf : Fr F W W') (hB : B ≤ W.heap.size) (hF : ∀ k, F k → B ≤ k) : Below B W W' := ⟨hf.os, hf.tape, hf.output, hf.size, fun k hk => hf.block k (by omega) (fun e => by have := hF k e; omega)⟩

def KW (B : Nat) (W W' : World) : Prop := Below B W W' ∧ KeepsWalks W W'

/-- A slice that is being built: its box, its rows. -/
structure AS (w W : World) (v : Value) (size : Nat) (xs : List (Array Value)) : Prop where
  fr : Fr (fun _ => False) w W
  rb : rowOf W w.heap.size = #[v]
  lb : live W w.heap.size = true
  own : OwnRows W v size xs (w.heap.size + 1)

theorem AS.frk {w W W' : World} {v : Value} {size : Nat} {xs : List (Array Value)} (h : AS w W v size xs) {F : Nat → Prop} (hf : Fr F W W') (h0 : ∀ k, F k → w.heap.size + 1 ≤ k) (h1 : ∀ k, F k → live W k = true → False) : AS w W' v size xs :=
  ⟨h.fr.trans hf (fun k hk e => by have := h0 k e; omega), (hf.row (live_lt h.lb) (fun e => h1 _ e h.lb)).trans h.rb, (hf.liv (live_lt h.lb) (fun e => h1 _ e h.lb)).trans h.lb, h.own.keep hf (fun k hk e => h1 k e (h.own.liv hk))⟩

theorem AS.ownFrom {α : Type} (w : World) (size : Nat) (f : List α → List (Array Value)) (B : Nat) (hB : w.heap.size + 1 ≤ B) : OwnFrom B (fun (pre : List α) W => ∃ v, AS w W v size (f pre)) := by
  intro s W W' row ⟨v, h⟩ hg hr
  cases row with
  | none => exact ⟨v, h.frk (grown_fr0 hg) (fun _ e => e.elim) (fun _ e => e.elim)⟩
  | some r =>
    obtain ⟨h1, o, ho, hc⟩ := hr r rfl
    refine ⟨v, h.frk (grown_fr hg) (fun k e => by omega) (fun k e hl => ?_)⟩
    subst e
    obtain ⟨t, ht⟩ := live_obj hl
    rw [ho] at ht; cases ht; cases hc

/-- One more: the row is in w4, the box is stored. -/
theorem AS.push {w W w4 : World} {v v' : Value} {size : Nat} {xs ys : List (Array Value)} (h : AS w W v size xs) (hf : Fr (fun k => v.ownBlock = some k) W w4) (ho : OwnRows w4 v' size ys (w.heap.size + 1)) :
    AS w (w4.setRow w.heap.size #[v']) v' size ys ∧ KeepsOthers W (w4.setRow w.heap.size #[v']) ∧ KW w.heap.size W (w4.setRow w.heap.size #[v']) := by
  have hnb : ¬ v.ownBlock = some w.heap.size := fun e => by have := (h.own.lt e).1; omega
  have l4 := (hf.liv (live_lt h.lb) hnb).trans h.lb
  have f2 : Fr (fun k => v.ownBlock = some k ∨ k = w.heap.size) W (w4.setRow w.heap.size #[v']) := (hf.mono (fun _ _ e => .inl e)).setRow _ _ (fun _ => .inr rfl)
  have hk := fr_keeps f2 (fun k _ e => e.elim (fun e => h.own.liv e) (fun e => by subst e; exact h.lb))
  refine ⟨⟨h.fr.trans f2 (fun k hk e => ?_), rowOf_setRow_same _ _ _ l4, by rw [live_setRow]; exact l4, ho.keep ((Fr.refl (fun k => k = w.heap.size) w4).setRow _ _ (fun _ => rfl)) (fun k hk e => by have := (ho.lt hk).1; omega)⟩, hk, fr_below f2 (h.fr.size) (fun k e => ?_), keeps_walks hk⟩
  · rcases e with e | e
    · have := (h.own.lt e).1; omega
    · omega
  · rcases e with e | e
    · have := (h.own.lt e).1; omega
    · omega

theorem below_fr {W W' : World} {B : Nat} (h : Below B W W') : Fr (fun k => B ≤ k) W W' := ⟨h.os, h.tape, h.output, h.size, fun k _ hn => h.block k (by omega)⟩

set_option maxRecDepth 20000 in
set_option maxHeartbeats 4000000 in
theorem values106 {w0 : World} {v : Value} {L : List Nat} {base bx B : Nat} (hb : rowOf w0 bx = #[v]) (ho : OwnRows w0 v 1 (natRows L) base) (hB1 : bx < B) (hB2 : ∀ k, v.ownBlock = some k → k < B) (hB3 : B ≤ w0.heap.size) (hn : L.length < 2 ^ 36) :
    SeqStopsK Fence.wide 1 Tryz.prog 106 #[.pointer (some ⟨bx, 0, none⟩)] (fun x : Nat => #[.int .i64 (x : Nat)]) (KW B) (fun xs => xs = L) (fun _ => True) L.length w0 := by
  intro l J Jx W hW hJ hJx hY h0
  have hfW := below_fr hW
  have hb1 : rowOf W bx = #[v] := (hfW.row (by omega) (by omega)).trans hb
  have ho1 := ho.keep hfW (fun k hk e => by have := hB2 k hk; omega)
  obtain ⟨a, c, rfl⟩ := ho1.len
  rw [natRows_length] at ho1 hb1 hB2
  have HO := Lib.hid ho1
  have HB2 := Lib.hid hB2
  have HY := Lib.hid hY
  have H0 := Lib.hid h0
  clear ho1 hY h0 hJ hJx hb ho hfW hB2
  refine callsIn_wide.2 ?_
  show Calls Tryz.prog 106 #[.func (.yield l) #[] #[], .pointer (some ⟨bx, 0, none⟩)] W _
  go_enter Tryz.func106, Tryz.ntmps106
  go_wp2
  go_loopw [7] (fun t7 wr => ∃ k : Nat, t7 = .int .i64 (k : Nat) ∧ k ≤ L.length ∧ J (L.take k) wr ∧ Below B W wr) (fun t7 _ => L.length - (intOf t7).toNat)
  case atStart => exact ⟨0, rfl, Nat.zero_le _, H0.out, Below.refl _ _⟩
  case round =>
    obtain ⟨k, rfl, hk, hJk, hbe⟩ := hrel
    have HBE := Lib.hid hbe
    have HJK := Lib.hid hJk
    by_cases hlt : k < L.length
    · have hoK := HO.out.keep (below_fr hbe) (fun k hk e => by have := HB2.out k hk; omega)
      obtain ⟨g, rfl, -⟩ := hoK.get (k := k) (by rw [natRows_length]; exact hlt)
      have c0 := (natRows_get hoK hlt).1
      obtain ⟨fn, tmps, assign, body, hy, hR⟩ := HY.out (L.take k) L[k] wr hJk (by rw [List.length_take]; omega)
      have HTK := Lib.hid (List.take_succ_eq_append_getElem hlt)
      have HLT := Lib.hid hlt
      have hki : (k : Int) < (L.length : Int) := by omega
      generalize L[k] = q at *
      clear hJk hbe hoK
      go_upto_region 3 with fail
      rw [← wpIn_wide (n := 1)]
      gi_wp2
      refine hR.mono ?_
      rintro e W3 (⟨rfl, hJ3, hk3⟩ | ⟨rfl, hJx3⟩)
      · have HJ3 := Lib.hid hJ3
        have HK3 := Lib.hid (HBE.out.trans hk3.1)
        clear hJ3 hk3
        gi_wp2
        go_wp2
        go_roundw
        case rel => exact ⟨k + 1, by go_num, by have := HLT.out; omega, by rw [HTK.out]; exact HJ3.out, HK3.out⟩
        case measure => (have := HLT.out; simp only [intOf]; omega)
      · gi_wp2
        go_wp2
        refine bodyPost_ret (results_none rfl _ _ _) rfl ?_
        exact ⟨⟨_, rfl⟩, .inr ⟨_, trivial, hJx3⟩⟩
    · obtain rfl : k = L.length := by omega
      rw [List.take_length] at hJk
      have HJL := Lib.hid hJk
      clear hJk hbe
      go_wp2
      go_end0
      exact ⟨⟨_, rfl⟩, .inl ⟨_, rfl, HJL.out⟩⟩

set_option maxRecDepth 20000 in
set_option maxHeartbeats 4000000 in
/-- slices.AppendSeq(nil, seq), of numbers. -/
theorem append152 {w : World} {gf : Nat} {lb : Array Value} {B N : Nat} {S : List Nat → Prop} (eg : ∀ args w, (callFunc gf args).run Tryz.prog w = .ok (.enter gf args) w) (hB : B ≤ w.heap.size) (hN : N < 2 ^ 36)
    (hseq : ∀ w0, Fr (fun _ => False) w w0 → SeqStopsK Fence.wide 1 Tryz.prog gf lb (fun x : Nat => #[.int .i64 (x : Nat)]) (KW B) S (fun _ => True) N w0) :
    Calls Tryz.prog 152 #[.slice none 0 0, .func (.func gf) #[] lb] w fun e w' => ∃ v xs, e = .returned v ∧ S xs ∧ OwnRows w' v 1 (natRows xs) (w.heap.size + 1) ∧ Fr (fun _ => False) w w' := by
  refine (callsIn_wide (n := 2)).1 ?_
  refine callsIn_of_wp_marks Tryz.func152 rfl trivial ?_ rfl
  simp only [Tryz.ntmps152, List.size_toArray, List.length_cons, List.length_nil, Nat.reduceAdd, Nat.reduceSub, Array.replicate_succ, Array.replicate_zero, List.push_toArray, List.append_toArray, List.nil_append, List.cons_append]
  gi_wp2
  have hf1 : Fr (fun _ => False) w (w.alloc (.cells #[.slice none 0 0] 32)) := (Fr.refl _ _).alloc _
  have h1 : AS w (w.alloc (.cells #[.slice none 0 0] 32)) (.slice none 0 0) 1 (natRows []) := ⟨hf1, rowOf_alloc_at _ _ _ _ _ rfl, live_alloc_at _ _ _ _ rfl, OwnRows.nil _ _ _⟩
  have hs1 : (w.alloc (.cells #[.slice none 0 0] 32)).heap.size = w.heap.size + 1 := by simp
  have hsq := hseq _ hf1
  generalize w.alloc (.cells #[.slice none 0 0] 32) = w1 at *
  refine wpIn_rangeFunc_ownH (n := 2) rfl (by omega) (gf := gf) (lb := lb) rfl trivial eg hsq (fun h k => ⟨h.1.trans k.1, h.2.trans k.2⟩) (fun W l o o' hl h hc hw => ⟨belowK_b (w := w1) (by omega) W l o o' hl h hc hw, walksK_b (w := w1) W l o o' hl h hc hw⟩) (Below.refl _ _) (fun _ => rfl)
    (fun pre W => ∃ v, AS w W v 1 (natRows pre)) (fun _ _ _ => False) (AS.ownFrom w 1 natRows _ (by omega)) (fun _ _ _ _ _ hs _ _ => hs) ⟨_, h1⟩
    (fun x a' _ => a' = { tmps := #[.slice none 0 0, .func (.func gf) #[] lb, .pointer (some ⟨w.heap.size, 0, none⟩), undef, .slice none 0 0, .int .i64 (x : Nat), .func (.func gf) #[] lb, .int .i64 (x : Nat), undef, undef, undef, undef, undef], defers := [] }) (fun _ _ _ _ _ _ hs _ _ => hs) ?assign ?body ?done ?stop
  case assign =>
    intro l pre x W K hI hK
    gi_wp2
    exact hK _ _ (KeepsFrom.refl _ _) ⟨Below.refl _ _, KeepsWalks.refl _⟩ hI rfl
  case body =>
    rintro l pre x a' W hl ⟨rc, hrc⟩ ⟨v, hA⟩ rfl hlen
    have rb := hA.rb
    have lb2 := hA.lb
    have ltb := live_lt lb2
    have hbw : w.heap.size + 1 ≤ W.heap.size := by omega
    have HA := Lib.hid hA
    obtain ⟨a4, c4, h4e⟩ := hA.own.len
    rw [natRows_length] at h4e
    subst h4e
    clear hA
    gi_wp2_with (gi_at_builtin; refine wpListIn_append_one rfl (.tmp 8) (.tmp 10) 32 rfl 3 _ 1 8 Tryz.underlying32 ti3 (.slice a4 pre.length c4) (natRows pre) (w.heap.size + 1) rfl (HA.out.own.keep ((Fr.refl (fun _ => False) W).alloc _) (fun _ _ h => h)) (by simp; omega) W.heap.size 1 rfl #[.int .i64 (x : Nat)] (by simp [go_sem]) (by simp [go_sem]; rfl) (by intro y hy; simp at hy; subst hy; rfl) (natRows_size _) (by rw [natRows_length]; simp only [maxLen]; omega) (fitsN (by rw [natRows_length]; omega) (by omega)) ?_; intro g' cap' w4 ho4 f4 hn4; rw [natRows_length] at ho4 ⊢; have f04 : Fr (fun i => (Value.slice a4 pre.length c4).ownBlock = some i) W w4 := (((Fr.refl (fun _ => False) W).alloc _).mono (fun _ _ e => e.elim)).trans f4 (fun _ _ e => e); have HP := Lib.hid (HA.out.push (v' := .slice (some ⟨g', 0, none⟩) (pre.length + 1) cap') (ys := natRows (pre ++ [x])) f04 (by rw [natRows_snoc]; exact ho4)); have rb4 := (f04.row ltb (fun e => by have := (HA.out.own.lt e).1; omega)).trans rb; have lb4 := (f04.liv ltb (fun e => by have := (HA.out.own.lt e).1; omega)).trans lb2; clear ho4 f4 hn4 f04)
    exact ⟨HP.out.2.1.from _, ⟨HP.out.2.2.1.mono hB, HP.out.2.2.2⟩, _, HP.out.1⟩
  case done =>
    rintro D xs W hD hS ⟨v, hA⟩ hK
    have rb := hA.rb
    have lb2 := hA.lb
    have hO := hA.own.keep (Fr.refl (fun _ => False) W) (fun _ _ e => e)
    have h2 := hA.frk (grown_fr (grownBy_putObj' W D (.deferred none))) (fun k hk => by omega) (fun k e hl => by
      subst e
      obtain ⟨t, ht⟩ := live_obj hl
      rw [hK] at ht; cases ht)
    gi_wp2
    refine ⟨by simp, .inl ⟨_, _, rfl, run_takeDeferred hK, ?_⟩⟩
    exact ⟨_, results_tmp rfl _ _ _, v, xs, rfl, hS, h2.own, h2.fr⟩
  case stop =>
    intro D c pre W _ _ h _
    exact h.elim

set_option maxRecDepth 20000 in
set_option maxHeartbeats 2000000 in
theorem collect105 {w : World} {gf : Nat} {lb : Array Value} {B N : Nat} {S : List Nat → Prop} (eg : ∀ args w, (callFunc gf args).run Tryz.prog w = .ok (.enter gf args) w) (hB : B ≤ w.heap.size) (hN : N < 2 ^ 36)
    (hseq : ∀ w0, Fr (fun _ => False) w w0 → SeqStopsK Fence.wide 1 Tryz.prog gf lb (fun x : Nat => #[.int .i64 (x : Nat)]) (KW B) S (fun _ => True) N w0) :
    Calls Tryz.prog 105 #[.func (.func gf) #[] lb] w fun e w' => ∃ v xs, e = .returned v ∧ S xs ∧ OwnRows w' v 1 (natRows xs) (w.heap.size + 1) ∧ Fr (fun _ => False) w w' := by
  have H := Lib.hid (append152 eg hB hN hseq)
  clear hseq eg
  go_enter Tryz.func105, Tryz.ntmps105
  go_wp2_with (go_at_call 152; refine H.out.mono ?_; rintro e w1 ⟨v, xs, rfl, hS, ho, hf⟩)
  go_ret
  exact ⟨v, xs, rfl, hS, ho, hf⟩

set_option maxRecDepth 20000 in
set_option maxHeartbeats 2000000 in
theorem sorted79 : Sorted79 := by
  intro w v xs base bx ho hn hb lb
  have hltb := live_lt lb
  have H := Lib.hid (collect105 (w := w) (gf := 106) (lb := #[.pointer (some ⟨bx, 0, none⟩)]) (B := w.heap.size) (N := xs.length) (S := fun ys => ys = xs) (enters_of Tryz.func106 (by kernel_rfl) rfl) (Nat.le_refl _) hn
    (fun w0 hf => values106 ((hf.row hltb (fun e => e)).trans hb) (ho.keep hf (fun _ _ e => e)) hltb (fun k hk => (ho.lt hk).2) hf.size hn))
  have hn2 : xs.length < 2 ^ 41 := Nat.lt_trans hn (by decide)
  have HS := Lib.hid (fun W v base (h : OwnRows W v 1 (natRows xs) base) => sorts83 W v xs base h hn2)
  clear ho hb lb
  go_enter Tryz.func79, Tryz.ntmps79
  go_wp2_with (first
    | (go_at_call 105; refine H.out.mono ?_; rintro e w1 ⟨v1, ys, rfl, rfl, ho1, hf1⟩; have HS1 := Lib.hid (HS.out _ _ _ ho1); have HO1 := Lib.hid ho1; have HF1 := Lib.hid hf1; clear ho1 hf1)
    | (go_at_call 83; refine HS1.out.mono ?_; rintro e w2 ⟨rfl, zs, hp, hso, ho2, hf2⟩))
  go_ret
  refine ⟨v1, zs, rfl, ho2.weaken (by omega), hp, hso, HF1.out.trans hf2 (fun k hk e => by have := (HO1.out.lt e).1; omega)⟩

/-! ### the places -/
theorem fr_grown0 {w w' : World} (h : Fr (fun _ => False) w w') : w.grownBy w' none := ⟨h.os, h.tape, h.output, h.size, fun i hi _ => h.block i hi (fun e => e)⟩
theorem RangeF.walks {w w' : World} {k : TypeId} {b r n : Nat} {f : Value → Option Value} {left : Value → Prop} {cnt : Nat} (h : RangeF w k b r n f left cnt) (hk : KeepsWalks w w') : RangeF w' k b r n f left cnt := by
  have h' := h
  obtain ⟨D, lf, ⟨es, clock, since, seen, c0, h1, h2, h3, h4, h5, h6⟩, F, hl⟩ := h
  exact h'.congr ((hk.same _ _ h1 rfl).trans h1.symm) ((hk.same _ _ h5 rfl).trans h5.symm)
theorem RangeF.iter {w : World} {k : TypeId} {b r n : Nat} {f : Value → Option Value} {left : Value → Prop} {cnt : Nat} (h : RangeF w k b r n f left cnt) : ∃ o : Obj, w.heap[r]? = some o ∧ o.isWalk = true := by
  obtain ⟨D, lf, ⟨es, clock, since, seen, c0, h1, h2, h3, h4, h5, h6⟩, F, hl⟩ := h
  exact ⟨_, h5, rfl⟩
theorem plRows_snoc (ts : List Nat) (t : Nat) : plRows (ts ++ [t]) = plRows ts ++ [plC t] := by simp [plRows]
theorem plRows_size (ts : List Nat) : ∀ y ∈ plRows ts, y.size = 2 := by
  intro y hy
  obtain ⟨t, -, rfl⟩ := List.mem_map.1 hy
  rfl
theorem ti138 : TI 138 (.agg #[.int .i64 0, .string ⟨#[]⟩]) 2 24 := ⟨by kernel_rfl, rfl, by omega⟩

set_option maxRecDepth 20000 in
set_option maxHeartbeats 4000000 in
theorem keys169 {w0 : World} {b2 bn n B : Nat} {f : Value → Option Value} (hb : rowOf w0 b2 = #[.map (some bn)]) (hm : MapF w0 138 bn n f) (hall : ∀ v x, f v = some x → ∃ t : Nat, v = plKey t) (hB1 : b2 < B) (hB2 : bn < B) (hB3 : B ≤ w0.heap.size) :
    SeqStopsK Fence.wide 1 Tryz.prog 169 #[.pointer (some ⟨b2, 0, none⟩)] (fun t : Nat => #[plKey t]) (KW B) (fun ts => ∀ t ∈ ts, (f (plKey t)).isSome = true) (fun _ => True) n w0 := by
  intro l J Jx W hW hJ hJx hY h0
  have hfW := below_fr hW
  have hb1 : rowOf W b2 = #[.map (some bn)] := (hfW.row (by omega) (by omega)).trans hb
  have hm1 := hm.fr hfW (by omega)
  have hBW : B ≤ W.heap.size := Nat.le_trans hB3 hW.size
  have HM := Lib.hid hm1
  have HY := Lib.hid hY
  have H0 := Lib.hid h0
  have HJ := Lib.hid hJ
  have HALL := Lib.hid hall
  have hltb := rowOf_some_lt hb1
  clear hm1 hm hY h0 hJ hJx hb hfW hall
  refine callsIn_wide.2 ?_
  show Calls Tryz.prog 169 #[.func (.yield l) #[] #[], .pointer (some ⟨b2, 0, none⟩)] W _
  go_enter Tryz.func169, Tryz.ntmps169
  go_wp2_with (at_range; refine wpList_rangeF _ rfl _ 89 rfl law138 Tryz.underlying89 HM.out rfl ?_; intro w1 cnt0 hrg0 hcn0 hf0 hs0)
  obtain ⟨rr, hrr⟩ : ∃ rr, W.heap.size = rr := ⟨_, rfl⟩
  have hJ1 : J [] w1 := HJ.out [] W w1 none H0.out (fr_grown0 hf0) (fun r e => (by cases e))
  have HJ1 := Lib.hid hJ1
  have HB0 := Lib.hid (fr_below hf0 (by omega : B ≤ W.heap.size) (fun _ e => e.elim))
  rw [hrr] at hrg0 HJ hs0 ⊢
  have hBr : B ≤ rr := by omega
  clear hJ1 hf0 hltb
  go_loopw [6] (fun _ wr => ∃ (left : Value → Prop) (cnt : Nat) (ts : List Nat), RangeF wr 138 bn rr n f left cnt ∧ ts.length + cnt ≤ n ∧ (∀ t ∈ ts, (f (plKey t)).isSome = true) ∧ J ts wr ∧ Below B W wr) (fun _ wr => wr.rangeLeft bn rr)
  case atStart => exact ⟨_, cnt0, [], hrg0, by simpa using hcn0, fun _ h => (by cases h), HJ1.out, HB0.out⟩
  case round =>
    obtain ⟨left, cnt, ts, hrg, hcn, hts, hJt, hbe⟩ := hrel
    have HRG := Lib.hid hrg
    have HTS := Lib.hid hts
    have HJT := Lib.hid hJt
    have HBE := Lib.hid hbe
    clear hts hJt hbe hrg0 hs0
    go_wp2_with (at_next; refine wpList_nextF _ rfl _ rfl law138 rr rfl hrg ?_ ?_)
    · intro hc0 hl0
      go_wp2
      go_end0
      exact ⟨⟨_, rfl⟩, .inl ⟨ts, HTS.out, HJT.out⟩⟩
    · intro key x kl w2 cnt2 hkey hlk hfx hrg2 hlt hf2 hs2 hen
      obtain ⟨t, rfl⟩ := HALL.out _ _ hfx
      have hJ2 : J ts w2 := HJ.out ts _ w2 (some rr) HJT.out (fr_grown hf2) (fun r e => by cases e; exact ⟨Nat.le_refl _, HRG.out.iter⟩)
      obtain ⟨hBf, hBr2, hBl, hBlt⟩ := boxed_new w2 #[.int .i64 0, .string ⟨#[]⟩] #[.int .i64 (t : Nat), .string ⟨#[116]⟩] 138
      have hJ3 : J ts _ := HJ.out ts w2 _ none hJ2 (fr_grown0 hBf) (fun r e => (by cases e))
      have hbe2 : Below B W w2 := HBE.out.trans (fr_below hf2 (by have := HBE.out.size; omega) (fun k e => by omega))
      have hbe3 := hbe2.trans (fr_below hBf (by have := hbe2.size; omega) (fun _ e => e.elim))
      have hrg3 := hrg2.fr hBf (fun e => e) (fun e => e)
      have HX := Lib.hid (by rw [hfx]; rfl : (f (plKey t)).isSome = true)
      unfold plKey at hen ⊢
      clear hkey hlk hfx hrg hrg2 hf2 hs2 hJ2 hbe2
      go_upto_region 3 with fail
      generalize (w2.alloc (.cells #[.int .i64 0, .string ⟨#[]⟩] 138)).setRow w2.heap.size #[.int .i64 (t : Nat), .string ⟨#[116]⟩] = WB at *
      obtain ⟨fn, tmps, assign, body, hy, hR⟩ := HY.out ts t WB hJ3 (by omega)
      unfold plKey at hy
      have HRG3 := Lib.hid hrg3
      have HBE3 := Lib.hid hbe3
      clear hrg3 hbe3 hJ3 hen hBf
      rw [← wpIn_wide (n := 1)]
      gi_wp2
      refine hR.mono ?_
      rintro e W3 (⟨rfl, hJ3, hk3⟩ | ⟨rfl, hJx3⟩)
      · have HJ3 := Lib.hid hJ3
        have HK3 := Lib.hid (HBE3.out.trans hk3.1)
        have HRG4 := Lib.hid (HRG3.out.walks hk3.2)
        clear hJ3 hk3
        gi_wp2
        go_wp2
        go_roundw
        case rel => exact ⟨_, cnt2, ts ++ [t], HRG4.out, by rw [List.length_append]; simp; omega, fun u hu => (List.mem_append.1 hu).elim (HTS.out u) (fun h => by rw [List.mem_singleton.1 h]; exact HX.out), HJ3.out, HK3.out⟩
        case measure => (rw [HRG4.out.left_eq, HRG.out.left_eq]; exact hlt)
      · gi_wp2
        go_wp2
        refine bodyPost_ret (results_none rfl _ _ _) rfl ?_
        exact ⟨⟨_, rfl⟩, .inr ⟨_, trivial, hJx3⟩⟩

set_option maxRecDepth 20000 in
set_option maxHeartbeats 4000000 in
/-- slices.AppendSeq(nil, seq), of places. -/
theorem append184 {w : World} {gf : Nat} {lb : Array Value} {B N : Nat} {S : List Nat → Prop} (eg : ∀ args w, (callFunc gf args).run Tryz.prog w = .ok (.enter gf args) w) (hB : B ≤ w.heap.size) (hN : N < 2 ^ 41)
    (hseq : ∀ w0, Fr (fun _ => False) w w0 → SeqStopsK Fence.wide 1 Tryz.prog gf lb (fun t : Nat => #[plKey t]) (KW B) S (fun _ => True) N w0) :
    Calls Tryz.prog 184 #[.slice none 0 0, .func (.func gf) #[] lb] w fun e w' => ∃ v xs, e = .returned v ∧ S xs ∧ xs.length < 2 ^ 41 ∧ OwnRows w' v 2 (plRows xs) (w.heap.size + 1) ∧ Fr (fun _ => False) w w' := by
  refine (callsIn_wide (n := 2)).1 ?_
  refine callsIn_of_wp_marks Tryz.func184 rfl trivial ?_ rfl
  simp only [Tryz.ntmps184, List.size_toArray, List.length_cons, List.length_nil, Nat.reduceAdd, Nat.reduceSub, Array.replicate_succ, Array.replicate_zero, List.push_toArray, List.append_toArray, List.nil_append, List.cons_append]
  gi_wp2
  have hf1 : Fr (fun _ => False) w (w.alloc (.cells #[.slice none 0 0] 211)) := (Fr.refl _ _).alloc _
  have h1 : AS w (w.alloc (.cells #[.slice none 0 0] 211)) (.slice none 0 0) 2 (plRows []) := ⟨hf1, rowOf_alloc_at _ _ _ _ _ rfl, live_alloc_at _ _ _ _ rfl, OwnRows.nil _ _ _⟩
  have hs1 : (w.alloc (.cells #[.slice none 0 0] 211)).heap.size = w.heap.size + 1 := by simp
  have hsq := hseq _ hf1
  generalize w.alloc (.cells #[.slice none 0 0] 211) = w1 at *
  have hI : OwnFrom w1.heap.size (fun (pre : List Nat) W => pre.length ≤ N ∧ ∃ v, AS w W v 2 (plRows pre)) := fun s W W' row h hg hr => ⟨h.1, AS.ownFrom w 2 plRows _ (by omega) s W W' row h.2 hg hr⟩
  refine wpIn_rangeFunc_ownH (n := 2) rfl (by omega) (gf := gf) (lb := lb) rfl trivial eg hsq (fun h k => ⟨h.1.trans k.1, h.2.trans k.2⟩) (fun W l o o' hl h hc hw => ⟨belowK_b (w := w1) (by omega) W l o o' hl h hc hw, walksK_b (w := w1) W l o o' hl h hc hw⟩) (Below.refl _ _) (fun _ => rfl)
    (fun pre W => pre.length ≤ N ∧ ∃ v, AS w W v 2 (plRows pre)) (fun _ _ _ => False) hI (fun _ _ _ _ _ hs _ _ => hs) ⟨Nat.zero_le _, _, h1⟩
    (fun t a' W => ∃ bx, rowOf W bx = plC t ∧ live W bx = true ∧ a' = { tmps := #[.slice none 0 0, .func (.func gf) #[] lb, .pointer (some ⟨w.heap.size, 0, none⟩), undef, .slice none 0 0, .pointer (some ⟨bx, 0, none⟩), .func (.func gf) #[] lb, plKey t, undef, undef, undef, undef, undef], defers := [] })
    (fun t a' s W W' row ⟨bx, e1, e2, e3⟩ hg hr => by
      cases row with
      | none => exact ⟨bx, ((grown_fr0 hg).row (live_lt e2) (fun e => e)).trans e1, ((grown_fr0 hg).liv (live_lt e2) (fun e => e)).trans e2, e3⟩
      | some r =>
        have hne : ¬ bx = r := fun e => by
          obtain ⟨-, o, ho, hc⟩ := hr r rfl
          subst e
          obtain ⟨t', ht⟩ := live_obj e2
          rw [ho] at ht; cases ht; cases hc
        exact ⟨bx, ((grown_fr hg).row (live_lt e2) hne).trans e1, ((grown_fr hg).liv (live_lt e2) hne).trans e2, e3⟩) ?assign ?body ?done ?stop
  case assign =>
    rintro l pre t W K ⟨hpn, v, hA⟩ hK
    obtain ⟨hBf, hBr, hBl, hBlt⟩ := boxed_new W #[.int .i64 0, .string ⟨#[]⟩] #[.int .i64 (t : Nat), .string ⟨#[116]⟩] 138
    have hA2 := hA.frk hBf (fun _ e => e.elim) (fun _ e => e.elim)
    have hko := fr_keeps hBf (fun _ _ e => e.elim)
    have hbl := fr_below hBf (by have := hA.fr.size; omega : B ≤ W.heap.size) (fun _ e => e.elim)
    have HA2 := Lib.hid hA2
    clear hA hA2
    unfold plKey
    gi_wp2
    exact hK _ _ (hko.from _) ⟨hbl, keeps_walks hko⟩ ⟨hpn, v, HA2.out⟩ ⟨_, hBr, hBl, rfl⟩
  case body =>
    rintro l pre t a' W hl ⟨rc, hrc⟩ ⟨hpn, v, hA⟩ ⟨bx, e1, e2, rfl⟩ hlen
    have rb := hA.rb
    have lb2 := hA.lb
    have ltb := live_lt lb2
    have hbw : w.heap.size + 1 ≤ W.heap.size := by omega
    have HA := Lib.hid hA
    obtain ⟨a4, c4, h4e⟩ := hA.own.len
    rw [plRows_length] at h4e
    subst h4e
    unfold plC at e1
    unfold plKey
    have hltx := live_lt e2
    clear hA
    gi_wp2_with (gi_at_builtin; refine wpListIn_append_one rfl (.tmp 8) (.tmp 10) 211 rfl 138 _ 2 24 Tryz.underlying211 ti138 (.slice a4 pre.length c4) (plRows pre) (w.heap.size + 1) rfl (HA.out.own.keep ((Fr.refl (fun _ => False) W).alloc _) (fun _ _ h => h)) (by simp; omega) W.heap.size 1 rfl (plC t) (by simp [go_sem]) (by simp [go_sem, plC]; rfl) (by intro y hy; simp [plC] at hy; rcases hy with rfl | rfl <;> rfl) (plRows_size _) (by rw [plRows_length]; simp only [maxLen]; omega) (fitsN (by rw [plRows_length]; omega) (by omega)) ?_; intro g' cap' w4 ho4 f4 hn4; rw [plRows_length] at ho4 ⊢; have f04 : Fr (fun i => (Value.slice a4 pre.length c4).ownBlock = some i) W w4 := (((Fr.refl (fun _ => False) W).alloc _).mono (fun _ _ e => e.elim)).trans f4 (fun _ _ e => e); have HP := Lib.hid (HA.out.push (v' := .slice (some ⟨g', 0, none⟩) (pre.length + 1) cap') (ys := plRows (pre ++ [t])) f04 (by rw [plRows_snoc]; exact ho4)); have rb4 := (f04.row ltb (fun e => by have := (HA.out.own.lt e).1; omega)).trans rb; have lb4 := (f04.liv ltb (fun e => by have := (HA.out.own.lt e).1; omega)).trans lb2; clear ho4 f4 hn4 f04)
    exact ⟨HP.out.2.1.from _, ⟨HP.out.2.2.1.mono hB, HP.out.2.2.2⟩, by rw [List.length_append]; simp; omega, _, HP.out.1⟩
  case done =>
    rintro D xs W hD hS ⟨hpn, v, hA⟩ hK
    have rb := hA.rb
    have lb2 := hA.lb
    have h2 := hA.frk (grown_fr (grownBy_putObj' W D (.deferred none))) (fun k hk => by omega) (fun k e hl => by
      subst e
      obtain ⟨t, ht⟩ := live_obj hl
      rw [hK] at ht; cases ht)
    gi_wp2
    refine ⟨by simp, .inl ⟨_, _, rfl, run_takeDeferred hK, ?_⟩⟩
    exact ⟨_, results_tmp rfl _ _ _, v, xs, rfl, hS, by omega, h2.own, h2.fr⟩
  case stop =>
    intro D c pre W _ _ h _
    exact h.elim

set_option maxRecDepth 20000 in
set_option maxHeartbeats 2000000 in
theorem collect167 {w : World} {gf : Nat} {lb : Array Value} {B N : Nat} {S : List Nat → Prop} (eg : ∀ args w, (callFunc gf args).run Tryz.prog w = .ok (.enter gf args) w) (hB : B ≤ w.heap.size) (hN : N < 2 ^ 41)
    (hseq : ∀ w0, Fr (fun _ => False) w w0 → SeqStopsK Fence.wide 1 Tryz.prog gf lb (fun t : Nat => #[plKey t]) (KW B) S (fun _ => True) N w0) :
    Calls Tryz.prog 167 #[.func (.func gf) #[] lb] w fun e w' => ∃ v xs, e = .returned v ∧ S xs ∧ xs.length < 2 ^ 41 ∧ OwnRows w' v 2 (plRows xs) (w.heap.size + 1) ∧ Fr (fun _ => False) w w' := by
  have H := Lib.hid (append184 eg hB hN hseq)
  clear hseq eg
  go_enter Tryz.func167, Tryz.ntmps167
  go_wp2_with (go_at_call 184; refine H.out.mono ?_; rintro e w1 ⟨v, xs, rfl, hS, hl, ho, hf⟩)
  go_ret
  exact ⟨v, xs, rfl, hS, hl, ho, hf⟩

def encP (t : Nat) : List Value := [.int .i64 (t : Nat), .string ⟨#[116]⟩]
theorem sorts168 (w : World) (v : Value) (xs : List Nat) (base : Nat) (ho : OwnRows w v 2 (plRows xs) base) (hlt : xs.length < 2 ^ 41) :
    Calls Tryz.prog 168 #[v, .func (.func 126) #[] #[]] w fun e w' => e = .returned (.tuple #[]) ∧ ∃ ys, ys.Perm xs ∧ OwnRows w' v 2 (plRows ys) base ∧ Fr (fun k => v.ownBlock = some k) w w' :=
  sorts_of (enc := encP) (k := 2) (cf := fun x y => orL [Lib.compareInt x y, cmpS [116] [116]]) (fid := 168) (fv := .func (.func 126) #[] #[]) (fun _ => rfl) (by omega)
    (fun w => AnyF.slices_SortFunc_none { lay168 with } none 0 _ w)
    (fun g cap d w hH hb hs => AnyQ.slices_SortFunc lay168 2 Tryz.isAgg138 Tryz.sizeOf138 encP (fun _ => rfl) (fun x u hu => by simp [encP] at hu; rcases hu with rfl | rfl <;> rfl) _ (TW.orL2 (TW.int.key (fun x : Nat => (x : Int))) (TW.str.key (fun _ : Nat => ([116] : Key)))).swo 126 #[] g 0 cap d w (enters_of Tryz.func126 (by kernel_rfl) rfl) (fun _ _ _ _ x y => closure126 _ x y) hH hb hs)
    w v xs base ho hlt

set_option maxRecDepth 20000 in
set_option maxHeartbeats 2000000 in
theorem sorted124 : Sorted124 := by
  intro w cls b2 bn n B f N hN hn hb lb
  have hltb := live_lt lb
  have hltm := hN.map.lt
  have H := Lib.hid (collect167 (w := w) (gf := 169) (lb := #[.pointer (some ⟨b2, 0, none⟩)]) (B := w.heap.size) (N := n) (S := fun ts => ∀ t ∈ ts, (f (plKey t)).isSome = true) (enters_of Tryz.func169 (by kernel_rfl) rfl) (Nat.le_refl _) hn
    (fun w0 hf => keys169 ((hf.row hltb (fun e => e)).trans hb) (hN.map.fr hf (fun e => e)) (fun v x h => by obtain ⟨t, L, h1, -⟩ := hN.all v x h; exact ⟨t, h1⟩) hltb hltm hf.size))
  have hnn : ∀ t : Nat, (f (plKey t)).isSome = true → N t ≠ none := fun t ht => by
    obtain ⟨x, hx⟩ := Option.isSome_iff_exists.1 ht
    obtain ⟨t', L, h1, h2⟩ := hN.all _ x hx
    obtain rfl := plKey_inj h1
    rw [h2]; simp
  have HNN := Lib.hid hnn
  clear hnn
  clear hN hb lb
  go_enter Tryz.func124, Tryz.ntmps124
  go_wp2_with (first
    | (go_at_call 167; refine H.out.mono ?_; rintro e w1 ⟨v1, ys, rfl, hS, hl1, ho1, hf1⟩; have HS1 := Lib.hid (sorts168 _ _ _ _ ho1 hl1); have HO1 := Lib.hid ho1; have HF1 := Lib.hid hf1; have HSS := Lib.hid hS; clear ho1 hf1 hS)
    | (go_at_call 168; refine HS1.out.mono ?_; rintro e w2 ⟨rfl, zs, hp, ho2, hf2⟩))
  go_ret
  refine ⟨v1, zs, rfl, ho2.weaken (by omega), fun t ht => HNN.out t (HSS.out t (hp.mem_iff.1 ht)), HF1.out.trans hf2 (fun k hk e => by have := (HO1.out.lt e).1; omega)⟩
end Go.Proofs.YteldfmgjbgedaaaGreat
