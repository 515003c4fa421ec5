/-
  Package serial: web.
-/
import Derived.Test.YteldfmgjbgedaaaGreatTaf
import Derived.Deep.CutRange
namespace Go.Proofs.YteldfmgjbgedaaaGreat
open Go.RowKit Go.Maps

theorem RangeF.ne_live {w : World} {k : TypeId} {b r n : Nat} {f : Value → Option Value} {left : Value → Prop} {cnt : Nat} (h : RangeF w k b r n f left cnt) {l : Nat} (hl : live w l = true) : l ≠ r := by
  rintro rfl
  obtain ⟨D, lf, ⟨es, clock, since, seen, c0, _, _, _, _, hr, _⟩, _⟩ := h
  obtain ⟨t, ht⟩ := live_obj hl
  rw [hr] at ht; cases ht

set_option maxRecDepth 20000 in
set_option maxHeartbeats 2000000 in
theorem values80 (w : World) (a : Option Addr) (n c : Nat) : Calls Tryz.prog 80 #[.slice a n c] w fun e w' => e = .returned (.func (.func 106) #[] #[.pointer (some ⟨w.heap.size, 0, none⟩)]) ∧ rowOf w' w.heap.size = #[.slice a n c] ∧ live w' w.heap.size = true ∧ Fr (fun _ => False) w w' := by
  go_enter Tryz.func80, Tryz.ntmps80
  go_wp2
  go_ret
  exact ⟨rfl, by simp [go_sem], by simp [go_sem], (Fr.refl _ w).alloc _⟩

/-- A web lies as it lay where what turned is no cells. -/
theorem WebAt.frm {w w' : World} {p gn gi : Nat} {tv : Value} {ws : List Nat} {vs : List Value} {N : List (List Nat)} {I : List Int} {base r : Nat} (h : WebAt w p gn gi tv ws vs N I base) (hf : Fr (fun k => k = r) w w') (hr : ∀ g, live w g = true → g ≠ r) : WebAt w' p gn gi tv ws vs N I base where
  rp := (hf.row (live_lt h.lp) (hr _ h.lp)).trans h.rp
  lp := (hf.liv (live_lt h.lp) (hr _ h.lp)).trans h.lp
  tx := h.tx.keep hf (fun _ hk e => hr _ (h.tx.liv hk) e)
  rn := (hf.row (live_lt h.ln) (hr _ h.ln)).trans h.rn
  ln := (hf.liv (live_lt h.ln) (hr _ h.ln)).trans h.ln
  ri := (hf.row (live_lt h.li) (hr _ h.li)).trans h.ri
  li := (hf.liv (live_lt h.li) (hr _ h.li)).trans h.li
  vn := h.vn
  nn := h.nn
  ii := h.ii
  own := fun i v l hv hl => (h.own i v l hv hl).keep hf (fun _ hk e => hr _ ((h.own i v l hv hl).liv hk) e)
  inj := h.inj
  sep := h.sep
  ne := h.ne
  tn := h.tn
  bs := h.bs

/-- What the rows of a web may say. -/
def NOk (A : List PAct) (C : List Nat) (ws : List Nat) (N : List (List Nat)) : Prop := ∀ i j, i < ws.length → j ∈ N[i]?.getD [] → j < ws.length ∧ SDep A C (ws[i]?.getD 0) (ws[j]?.getD 0)
theorem NOk.nil (A : List PAct) (C : List Nat) (ws : List Nat) (n : Nat) : NOk A C ws (List.replicate n []) := fun i j _ hj => by
  rw [List.getElem?_replicate] at hj
  split at hj <;> cases hj
theorem getD_set {N : List (List Nat)} {i : Nat} (hi : i < N.length) (l : List Nat) (j : Nat) : (N.set i l)[j]?.getD [] = if j = i then l else N[j]?.getD [] := by
  by_cases e : j = i
  · subst e; rw [if_pos rfl, List.getElem?_set_self hi]; rfl
  · rw [if_neg e, List.getElem?_set_ne (fun h => e h.symm)]
theorem NOk.snoc {A : List PAct} {C : List Nat} {ws : List Nat} {N : List (List Nat)} (h : NOk A C ws N) {i j : Nat} {l : List Nat} (hi : i < N.length) (hl : N[i]? = some l) (hj : j < ws.length) (hd : SDep A C (ws[i]?.getD 0) (ws[j]?.getD 0)) : NOk A C ws (N.set i (l ++ [j])) := fun u v hu hv => by
  rw [getD_set hi] at hv
  by_cases e : u = i
  · subst e
    rw [if_pos rfl, List.mem_append, List.mem_singleton] at hv
    rcases hv with hv | rfl
    · exact h u v hu (by rw [hl]; exact hv)
    · exact ⟨hj, hd⟩
  · rw [if_neg e] at hv; exact h u v hu hv
theorem NOk.same {A : List PAct} {C : List Nat} {ws : List Nat} {N : List (List Nat)} (h : NOk A C ws N) {i : Nat} {l l' : List Nat} (hi : i < N.length) (hl : N[i]? = some l) (hm : ∀ x, x ∈ l' → x ∈ l) : NOk A C ws (N.set i l') := fun u v hu hv => by
  rw [getD_set hi] at hv
  by_cases e : u = i
  · subst e
    rw [if_pos rfl] at hv
    exact h u v hu (by rw [hl]; exact hm v hv)
  · rw [if_neg e] at hv; exact h u v hu hv
theorem leadsTo_le (N : List (List Nat)) (i v : Nat) : leadsTo N i v ≤ i := by
  unfold leadsTo
  have := List.length_filter_le (fun u => decide (v ∈ N[u]?.getD [])) (List.range i)
  rw [List.length_range] at this; exact this

set_option maxRecDepth 20000 in
theorem run_made {t e : TypeId} {z : Value} {bytes : Nat} (ht : Tryz.prog.underlying t = some (.slice e)) (hti : TI e z 1 bytes) (hzc : z.cells = #[z]) (hb : bytes ≤ 1000) {n : Nat} (hn : n ≤ 1048576) (w : World) :
    (Instr.makeSlice t (.int .i64 (n : Nat)) (.int .i64 (n : Nat))).run Tryz.prog w = .ok (.slice (some ⟨w.heap.size, 0, none⟩) n n) (w.alloc (.cells (List.replicate n z).toArray e)) := by
  obtain ⟨i, hi, hz, hs, hy⟩ := info_parts hti.1
  have hbn : i.bytes * n ≤ 281474976710656 := by rw [hy]; exact Nat.le_trans (Nat.mul_le_mul hb hn) (by decide)
  have := run_make (P := Tryz.prog) w t e i z ht hi hz .i64 .i64 n n (by omega) (Int.le_refl _) (by rw [← Int.natCast_mul]; omega) (by omega)
  rw [this, hs, hzc, Int.toNat_natCast, Nat.mul_one, show madeCells #[z] n = (List.replicate n z).toArray from by rw [← toList_madeCells_one, Array.toArray_toList]]
theorem ti32 : TI 32 (.slice none 0 0) 1 24 := ⟨by kernel_rfl, rfl, by omega⟩
theorem OwnRows.weaken {w : World} {v : Value} {size : Nat} {xs : List (Array Value)} {b b' : Nat} (h : OwnRows w v size xs b) (hb : b' ≤ b) : OwnRows w v size xs b' := by
  rcases h with h | ⟨g, cap, h1, h2, h3⟩
  · exact .inl h
  · exact .inr ⟨g, cap, h1, Nat.le_trans hb h2, h3⟩

/-- The web is being laid: a slice for the next, a slice for the numbers. -/
structure Laid (w wx : World) (p : Nat) (tv : Value) (ws : List Nat) (base : Nat) : Prop where
  web : ∃ gn gi, WebAt wx p gn gi tv ws (List.replicate ws.length (.slice none 0 0)) (List.replicate ws.length []) (List.replicate ws.length 0) base
  fr : Fr (fun k => k = p) w wx

theorem Laid.made {w W2 : World} {p gn gi : Nat} {tv : Value} {ws : List Nat} {base : Nat} (htx : OwnRows w tv 1 (natRows ws) base) (hp : live w p = true) (hb : base ≤ p) (htp : ∀ k, tv.ownBlock = some k → k ≠ p) (f2 : Fr (fun k => k = p) w W2)
    (rn : rowOf W2 gn = (List.replicate ws.length (.slice none 0 0)).toArray) (ln : live W2 gn = true) (ri : rowOf W2 gi = (List.replicate ws.length (.int .i64 0)).toArray) (li : live W2 gi = true) (hgn : w.heap.size ≤ gn) (hgi : w.heap.size ≤ gi) (hne : gn ≠ gi)
    (hl2 : live W2 p = true) (hr : rowOf W2 p = #[tv, .slice (some ⟨gn, 0, none⟩) ws.length ws.length, .slice (some ⟨gi, 0, none⟩) ws.length ws.length]) : Laid w W2 p tv ws base := by
  have hpl := live_lt hp
  refine ⟨⟨gn, gi, WebAt.made hr hl2 (htx.keep f2 (fun k hk e => htp k hk e)) rn ln ri li ⟨by omega, by omega, hne⟩ (fun k hk => ⟨htp k hk, ?_, ?_⟩) ⟨hb, by omega, by omega⟩⟩, f2⟩
  · have := (htx.lt hk).2; omega
  · have := (htx.lt hk).2; omega

set_option maxRecDepth 20000 in
set_option maxHeartbeats 4000000 in
theorem web49 (H79 : Sorted79) (H82 : Search82) (H83 : Sorts83) (H84 : Compact84) {w : World} {A : List PAct} {C : List Nat} {vc va : Value} {ba bc base p bv bn n2 n3 : Nat} {f : Value → Option Value} {V : Key → Value} (hA : OwnRows w va 4 (A.map actRow) ba) (hC : OwnRows w vc 1 (natRows C) bc) (hh : HistOk A C) (hB : ActsB A C) (hH : HistAt w p bv bn n2 n3 f V A C base) (hn2 : n2 ≤ 4096) :
    Calls Tryz.prog 49 #[.pointer (some ⟨p, 0, none⟩), .agg #[vc, va]] w fun e w' => ∃ p gn gi tv ws vs N I, e = .returned (.pointer (some ⟨p, 0, none⟩)) ∧ Hid (WebAt w' p gn gi tv ws vs N I w.heap.size ∧ WebOk (SDep A C) ws N I ∧ ws.Perm C ∧ Fr (fun _ => False) w w') := by
  obtain ⟨aa, ca, rfl⟩ := hA.len
  obtain ⟨ac, cc, rfl⟩ := hC.len
  rw [List.length_map] at hA ⊢
  rw [natRows_length] at hC ⊢
  have hlc := hB.lc
  have hla := hB.la
  have hrb : rowOf (w.alloc (.cells #[.slice ac C.length cc, .slice aa A.length ca] 42)) w.heap.size = #[.slice ac C.length cc, .slice aa A.length ca] := rowOf_alloc_at _ _ _ _ _ rfl
  have hlb : live (w.alloc (.cells #[.slice ac C.length cc, .slice aa A.length ca] 42)) w.heap.size = true := live_alloc_at _ _ _ _ rfl
  have hf1 : Fr (fun _ => False) w (w.alloc (.cells #[.slice ac C.length cc, .slice aa A.length ca] 42)) := (Fr.refl _ _).alloc _
  have HA := Lib.hid hA
  have HC := Lib.hid hC
  have HH := Lib.hid hh
  have HB := Lib.hid hB
  have HP := Lib.hid hH
  clear hA hC hh hB hH
  go_enter Tryz.func49, Tryz.ntmps49
  go_upto_region 1 with fail
  generalize w.alloc (.cells #[.slice ac C.length cc, .slice aa A.length ca] 42) = W1 at hrb hlb hf1 ⊢
  have HV := Lib.hid (values80 W1 ac C.length cc)
  have HF1 := Lib.hid hf1
  clear hf1
  go_wp2_with (first
    | (go_at_call 80; refine HV.out.mono ?_; rintro e W2 ⟨rfl, r2, l2, hf2⟩; have HS := Lib.hid (H79 W2 (.slice ac C.length cc) C bc W1.heap.size (HC.out.keep (HF1.out.trans hf2 (fun _ _ e => e)) (fun _ _ e => e)) (by omega) r2 l2); have HF2 := Lib.hid (HF1.out.trans hf2 (fun _ _ e => e)); have hrb2 := (hf2.row (live_lt hlb) (fun e => e)).trans hrb; have hlb2 := (hf2.liv (live_lt hlb) (fun e => e)).trans hlb; clear hf2 r2 l2)
    | (go_at_call 79; refine HS.out.mono ?_; rintro e W3 ⟨v', ws, rfl, ho, hp, hso, hf3⟩; obtain ⟨a, c, rfl⟩ := ho.len; rw [natRows_length] at ho ⊢; have HO := Lib.hid ho; have HPM := Lib.hid hp; have HSO := Lib.hid hso; have HF3 := Lib.hid (HF2.out.trans hf3 (fun _ _ e => e)); have hrb3 := (hf3.row (live_lt hlb2) (fun e => e)).trans hrb2; have hlb3 := (hf3.liv (live_lt hlb2) (fun e => e)).trans hlb2; have hw2 : w.heap.size ≤ W2.heap.size := HF2.out.size; have hw3 : W2.heap.size ≤ W3.heap.size := hf3.size; clear hf3 ho hp hso; go_upto_region 2 with fail))
  have HLW := Lib.hid (HPM.out.length_eq : ws.length = C.length)
  have hlw : ws.length ≤ 4096 := by have := HLW.out; omega
  have hsz3 : W3.heap.size < (W3.alloc (.cells #[.slice a ws.length c, .slice none 0 0, .slice none 0 0] 130)).heap.size := by simp
  have rB : rowOf (W3.alloc (.cells #[.slice a ws.length c, .slice none 0 0, .slice none 0 0] 130)) W3.heap.size = #[.slice a ws.length c, .slice none 0 0, .slice none 0 0] := rowOf_alloc_at _ _ _ _ _ rfl
  have lB : live (W3.alloc (.cells #[.slice a ws.length c, .slice none 0 0, .slice none 0 0] 130)) W3.heap.size = true := live_alloc_at _ _ _ _ rfl
  have hf4 : Fr (fun _ => False) W3 (W3.alloc (.cells #[.slice a ws.length c, .slice none 0 0, .slice none 0 0] 130)) := (Fr.refl _ _).alloc _
  obtain ⟨pB, hpB⟩ : ∃ pB, W3.heap.size = pB := ⟨_, rfl⟩
  have HTP := Lib.hid (fun (k : Nat) (hk : (Value.slice a ws.length c).ownBlock = some k) => (by have := (HO.out.lt hk).2; omega : k ≠ pB))
  rw [hpB] at rB lB hsz3 ⊢
  have hbB2 : w.heap.size < pB := by have := live_lt hlb3; omega
  have hbB : w.heap.size ≤ pB := Nat.le_of_lt hbB2
  have ho4 := (HO.out.keep hf4 (fun _ _ e => e)).weaken (Nat.le_of_lt (live_lt hlb2))
  generalize W3.alloc (.cells #[.slice a ws.length c, .slice none 0 0, .slice none 0 0] 130) = W4 at rB lB hf4 hsz3 ho4 ⊢
  have HO4 := Lib.hid ho4
  have HF4 := Lib.hid (HF3.out.trans hf4 (fun _ _ e => e))
  have hrb4 := (hf4.row (live_lt hlb3) (fun e => e)).trans hrb3
  have hlb4 := (hf4.liv (live_lt hlb3) (fun e => e)).trans hlb3
  clear hf4 ho4 hpB hw2 hw3 hrb hrb2 hrb3 hlb hlb2 hlb3
  go_cut [28] from 21 to 38 (fun _ wx => Laid W4 wx pB (.slice a ws.length c) ws w.heap.size)
  case first =>
    -- R2 BEGIN
    have hm1 : ∀ W, (Instr.makeSlice 128 (.int .i64 (ws.length : Nat)) (.int .i64 (ws.length : Nat))).run Tryz.prog W = .ok (.slice (some ⟨W.heap.size, 0, none⟩) ws.length ws.length) (W.alloc (.cells (List.replicate ws.length (.slice none 0 0)).toArray 32)) := fun W => run_made Tryz.underlying128 ti32 rfl (by omega) (by omega) W
    have hm2 : ∀ W, (Instr.makeSlice 32 (.int .i64 (ws.length : Nat)) (.int .i64 (ws.length : Nat))).run Tryz.prog W = .ok (.slice (some ⟨W.heap.size, 0, none⟩) ws.length ws.length) (W.alloc (.cells (List.replicate ws.length (.int .i64 0)).toArray 3)) := fun W => run_made Tryz.underlying32 ti3 rfl (by omega) (by omega) W
    have hsz5 : pB < W4.heap.size + 1 := by omega
    have hng1 : W4.heap.size ≠ pB := by omega
    have hng2 : W4.heap.size + 1 ≠ pB := by omega
    have HS2 := Lib.hid (fun (W : World) (hfW : Fr (fun _ => False) W4 W) => (by rw [hfW.row (live_lt lB) (fun e => e), rB]; rfl : (rowOf W pB)[0]? = some (.slice a ws.length c)))
    have HS3 := Lib.hid (fun (W : World) (v1 v2 : Value) (hfW : Fr (fun _ => False) W4 W) => (by rw [rowOf_setRow_same _ _ _ ((hfW.liv (live_lt lB) (fun e => e)).trans lB)]; rfl : (rowOf (W.setRow pB #[.slice a ws.length c, v1, v2]) pB)[0]? = some (.slice a ws.length c)))
    refine wp_region_noPanic ?_
    refine wp_region_held_drew (S := (fun w' => (rowOf w' pB)[0]? = some (.slice a ws.length c))) (by kernel_rfl) ?_ (fun hHeld => ?_)
    · (try dsimp only)
      (first | assumption | exact HS2.out _ ((Fr.refl _ _).drew) | exact HS2.out _ (((Fr.refl _ W4).alloc _).drew) | exact HS2.out _ ((((Fr.refl _ W4).alloc _).alloc _).drew) | exact (congrArg (fun r => r[0]?) (rowOf_drew _ _)).trans (HS3.out _ _ _ (((Fr.refl _ W4).alloc _).alloc _)) | (simp [go_sem, rB, lB, hsz3, hsz5]; done) | skip)
    refine wpAnyH_take (i := 0) (oi := _) (v := ?_) rfl (by kernel_rfl) (by kernel_rfl) (by kernel_rfl) (fun _ _ _ h => h) (Or.inl ⟨by rfl, ?_⟩) (by assumption) ?_
    rotate_left
    · intro W hSw
      (try dsimp only at hSw)
      go_simp
      try with_reducible rfl
    try simp only [Act.put, List.setIfInBounds_toArray]
    refine wpAnyH_take (i := 1) (oi := _) (v := ?_) rfl (by kernel_rfl) (by kernel_rfl) (by kernel_rfl) (fun _ _ _ h => h) (Or.inl ⟨by rfl, ?_⟩) (by assumption) ?_
    rotate_left
    · intro W hSw
      (try dsimp only at hSw)
      go_simp
      try with_reducible rfl
    try simp only [Act.put]
    refine wpAnyH_take (i := 2) (oi := _) (v := ?_) rfl (by kernel_rfl) (by kernel_rfl) (by kernel_rfl) (fun _ _ _ h => h) (Or.inl ⟨by rfl, ?_⟩) (by assumption) ?_
    rotate_left
    · intro W hSw
      (try dsimp only at hSw)
      go_simp
      try with_reducible rfl
    try simp only [Act.put]
    refine wpAnyH_take (i := 3) (oi := _) (v := ?_) rfl (by kernel_rfl) (by kernel_rfl) (by kernel_rfl) (fun _ _ _ h => h) (Or.inl ⟨by rfl, ?_⟩) (by assumption) ?_
    rotate_left
    · intro W hSw
      (try dsimp only at hSw)
      go_simp
      try with_reducible rfl
    try simp only [Act.put]
    refine wpAnyH_take (i := 4) (oi := _) (v := ?_) rfl (by kernel_rfl) (by kernel_rfl) (by kernel_rfl) (fun _ _ _ h => h) (Or.inl ⟨by rfl, ?_⟩) (by assumption) ?_
    rotate_left
    · intro W hSw
      (try dsimp only at hSw)
      go_simp
      try with_reducible rfl
    try simp only [Act.put]
    refine wpAnyH_take (i := 5) (oi := _) (v := ?_) rfl (by kernel_rfl) (by kernel_rfl) (by kernel_rfl) (fun _ _ _ h => h) (Or.inl ⟨by rfl, ?_⟩) (by assumption) ?_
    rotate_left
    · intro W hSw
      (try dsimp only at hSw)
      go_simp
      try with_reducible rfl
    try simp only [Act.put]
    refine wpAnyH_take (i := 6) (oi := _) (v := ?_) rfl (by kernel_rfl) (by kernel_rfl) (by kernel_rfl) (fun _ _ _ h => h) (Or.inl ⟨by rfl, ?_⟩) (by assumption) ?_
    rotate_left
    · intro W hSw
      (try dsimp only at hSw)
      go_simp
      try with_reducible rfl
    try simp only [Act.put]
    refine wpAnyH_take (i := 8) (oi := _) (v := ?_) rfl (by kernel_rfl) (by kernel_rfl) (by kernel_rfl) (fun _ _ _ h => h) (Or.inl ⟨by rfl, ?_⟩) (by assumption) ?_
    rotate_left
    · intro W hSw
      (try dsimp only at hSw)
      go_simp
      try with_reducible rfl
    try simp only [Act.put]
    refine wpAnyH_take (i := 9) (oi := _) (v := ?_) rfl (by kernel_rfl) (by kernel_rfl) (by kernel_rfl) (fun _ _ _ h => h) (Or.inl ⟨by rfl, ?_⟩) (by assumption) ?_
    rotate_left
    · intro W hSw
      (try dsimp only at hSw)
      go_simp
      try with_reducible rfl
    try simp only [Act.put]
    refine wpAnyH_take (i := 10) (oi := _) (v := ?_) rfl (by kernel_rfl) (by kernel_rfl) (by kernel_rfl) (fun _ _ _ h => h) (Or.inl ⟨by rfl, ?_⟩) (by assumption) ?_
    rotate_left
    · intro W hSw
      (try dsimp only at hSw)
      go_simp
      try with_reducible rfl
    try simp only [Act.put]
    refine wpAnyH_take (i := 11) (oi := _) (v := ?_) rfl (by kernel_rfl) (by kernel_rfl) (by kernel_rfl) (fun _ _ _ h => h) (Or.inl ⟨by rfl, ?_⟩) (by assumption) ?_
    rotate_left
    · intro W hSw
      (try dsimp only at hSw)
      go_simp
      try with_reducible rfl
    try simp only [Act.put]
    refine wpAnyH_take (i := 12) (oi := _) (v := ?_) rfl (by kernel_rfl) (by kernel_rfl) (by kernel_rfl) (fun _ _ _ h => h) (Or.inl ⟨by rfl, ?_⟩) (by assumption) ?_
    rotate_left
    · intro W hSw
      (try dsimp only at hSw)
      go_simp
      try with_reducible rfl
    try simp only [Act.put]
    refine wpAnyH_ready (rs := [7, 13]) (by kernel_rfl) (by simp) ?_
    refine AllReadyH.cons rfl (fun K hK => ?_) ?_
    · skip
      go_simp
      refine hK.out _ _ ?_ (fun hHeld => ?_)
      · (try dsimp only)
        (first | assumption | exact HS2.out _ ((Fr.refl _ _).drew) | exact HS2.out _ (((Fr.refl _ W4).alloc _).drew) | exact HS2.out _ ((((Fr.refl _ W4).alloc _).alloc _).drew) | exact (congrArg (fun r => r[0]?) (rowOf_drew _ _)).trans (HS3.out _ _ _ (((Fr.refl _ W4).alloc _).alloc _)) | (simp [go_sem, rB, lB, hsz3, hsz5]; done) | skip)
      clear hK K
      refine wpAnyH_take (i := 14) (oi := _) (v := ?_) rfl (by kernel_rfl) (by kernel_rfl) (by kernel_rfl) (fun _ _ _ h => h) (Or.inl ⟨by rfl, ?_⟩) (by assumption) ?_
      rotate_left
      · intro W hSw
        (try dsimp only at hSw)
        go_simp
        try with_reducible rfl
      try simp only [Act.put, List.setIfInBounds_toArray]
      refine wpAnyH_take (i := 15) (oi := _) (v := ?_) rfl (by kernel_rfl) (by kernel_rfl) (by kernel_rfl) (fun _ _ _ h => h) (Or.inl ⟨by rfl, ?_⟩) (by assumption) ?_
      rotate_left
      · intro W hSw
        (try dsimp only at hSw)
        go_simp
        try with_reducible rfl
      try simp only [Act.put]
      refine wpAnyH_ready (rs := [13, 16]) (by kernel_rfl) (by simp) ?_
      refine AllReadyH.cons rfl (fun K hK => ?_) ?_
      · skip
        go_simp
        refine hK.out _ _ ?_ (fun hHeld => ?_)
        · (try dsimp only)
          (first | assumption | exact HS2.out _ ((Fr.refl _ _).drew) | exact HS2.out _ (((Fr.refl _ W4).alloc _).drew) | exact HS2.out _ ((((Fr.refl _ W4).alloc _).alloc _).drew) | exact (congrArg (fun r => r[0]?) (rowOf_drew _ _)).trans (HS3.out _ _ _ (((Fr.refl _ W4).alloc _).alloc _)) | (simp [go_sem, rB, lB, hsz3, hsz5]; done) | skip)
        clear hK K
        refine wpAnyH_ready (rs := [16]) (by kernel_rfl) (by simp) ?_
        refine AllReadyH.cons rfl (fun K hK => ?_) ?_
        · skip
          go_simp
          refine hK.out _ _ ?_ (fun hHeld => ?_)
          · (try dsimp only)
            (first | assumption | exact HS2.out _ ((Fr.refl _ _).drew) | exact HS2.out _ (((Fr.refl _ W4).alloc _).drew) | exact HS2.out _ ((((Fr.refl _ W4).alloc _).alloc _).drew) | exact (congrArg (fun r => r[0]?) (rowOf_drew _ _)).trans (HS3.out _ _ _ (((Fr.refl _ W4).alloc _).alloc _)) | (simp [go_sem, rB, lB, hsz3, hsz5]; done) | skip)
          clear hK K
          refine wpAnyH_take (i := 17) (oi := _) (v := ?_) rfl (by kernel_rfl) (by kernel_rfl) (by kernel_rfl) (fun _ _ _ h => h) (Or.inl ⟨by rfl, ?_⟩) (by assumption) ?_
          rotate_left
          · intro W hSw
            (try dsimp only at hSw)
            go_simp
            try with_reducible rfl
          try simp only [Act.put, List.setIfInBounds_toArray]
          refine wpAnyH_take (i := 18) (oi := _) (v := ?_) rfl (by kernel_rfl) (by kernel_rfl) (by kernel_rfl) (fun _ _ _ h => h) (Or.inl ⟨by rfl, ?_⟩) (by assumption) ?_
          rotate_left
          · intro W hSw
            (try dsimp only at hSw)
            go_simp
            try with_reducible rfl
          try simp only [Act.put]
          refine wpAnyH_ready (rs := [19]) (by kernel_rfl) (by simp) ?_
          refine AllReadyH.cons rfl (fun K hK => ?_) ?_
          · skip
            go_simp
            refine hK.out _ _ ?_ (fun hHeld => ?_)
            · (try dsimp only)
              (first | assumption | exact HS2.out _ ((Fr.refl _ _).drew) | exact HS2.out _ (((Fr.refl _ W4).alloc _).drew) | exact HS2.out _ ((((Fr.refl _ W4).alloc _).alloc _).drew) | exact (congrArg (fun r => r[0]?) (rowOf_drew _ _)).trans (HS3.out _ _ _ (((Fr.refl _ W4).alloc _).alloc _)) | (simp [go_sem, rB, lB, hsz3, hsz5]; done) | skip)
            clear hK K
            refine wpAnyH_done (by kernel_rfl) ?_ _
            refine NoPanic.normal ?_
            go_wp2_with fail
            go_meet
            case rel => exact Laid.made (gn := W4.heap.size) (gi := W4.heap.size + 1) HO4.out lB hbB HTP.out ((((Fr.refl (fun k => k = pB) W4).alloc _).alloc _).setRow _ _ (fun _ => rfl)).drew (by simp [go_sem, hng1]) (by simp [go_sem]) (by simp [go_sem, hng2]) (by simp [go_sem]) (by omega) (by omega) (by omega) (by simp [go_sem, lB, hsz3, hsz5]) (by simp [go_sem, lB, hsz3, hsz5])
          exact AllReadyH.nil
        exact AllReadyH.nil
      refine AllReadyH.cons rfl (fun K hK => ?_) ?_
      · skip
        go_simp
        refine hK.out _ _ ?_ (fun hHeld => ?_)
        · (try dsimp only)
          (first | assumption | exact HS2.out _ ((Fr.refl _ _).drew) | exact HS2.out _ (((Fr.refl _ W4).alloc _).drew) | exact HS2.out _ ((((Fr.refl _ W4).alloc _).alloc _).drew) | exact (congrArg (fun r => r[0]?) (rowOf_drew _ _)).trans (HS3.out _ _ _ (((Fr.refl _ W4).alloc _).alloc _)) | (simp [go_sem, lB, hsz3]; done) | skip)
        clear hK K
        refine wpAnyH_ready (rs := [13]) (by kernel_rfl) (by simp) ?_
        refine AllReadyH.cons rfl (fun K hK => ?_) ?_
        · skip
          go_simp
          refine hK.out _ _ ?_ (fun hHeld => ?_)
          · (try dsimp only)
            (first | assumption | exact HS2.out _ ((Fr.refl _ _).drew) | exact HS2.out _ (((Fr.refl _ W4).alloc _).drew) | exact HS2.out _ ((((Fr.refl _ W4).alloc _).alloc _).drew) | exact (congrArg (fun r => r[0]?) (rowOf_drew _ _)).trans (HS3.out _ _ _ (((Fr.refl _ W4).alloc _).alloc _)) | (simp [go_sem, lB, hsz3, hsz5]; done) | skip)
          clear hK K
          refine wpAnyH_take (i := 17) (oi := _) (v := ?_) rfl (by kernel_rfl) (by kernel_rfl) (by kernel_rfl) (fun _ _ _ h => h) (Or.inl ⟨by rfl, ?_⟩) (by assumption) ?_
          rotate_left
          · intro W hSw
            (try dsimp only at hSw)
            go_simp
            try with_reducible rfl
          try simp only [Act.put, List.setIfInBounds_toArray]
          refine wpAnyH_take (i := 18) (oi := _) (v := ?_) rfl (by kernel_rfl) (by kernel_rfl) (by kernel_rfl) (fun _ _ _ h => h) (Or.inl ⟨by rfl, ?_⟩) (by assumption) ?_
          rotate_left
          · intro W hSw
            (try dsimp only at hSw)
            go_simp
            try with_reducible rfl
          try simp only [Act.put]
          refine wpAnyH_ready (rs := [19]) (by kernel_rfl) (by simp) ?_
          refine AllReadyH.cons rfl (fun K hK => ?_) ?_
          · skip
            go_simp
            refine hK.out _ _ ?_ (fun hHeld => ?_)
            · (try dsimp only)
              (first | assumption | exact HS2.out _ ((Fr.refl _ _).drew) | exact HS2.out _ (((Fr.refl _ W4).alloc _).drew) | exact HS2.out _ ((((Fr.refl _ W4).alloc _).alloc _).drew) | exact (congrArg (fun r => r[0]?) (rowOf_drew _ _)).trans (HS3.out _ _ _ (((Fr.refl _ W4).alloc _).alloc _)) | (simp [go_sem, lB, hsz3, hsz5]; done) | skip)
            clear hK K
            refine wpAnyH_done (by kernel_rfl) ?_ _
            refine NoPanic.normal ?_
            go_wp2_with fail
            go_meet
            case rel => exact Laid.made (gn := W4.heap.size) (gi := W4.heap.size + 1) HO4.out lB hbB HTP.out (((((Fr.refl (fun k => k = pB) W4).alloc _).setRow _ _ (fun _ => rfl)).alloc _).setRow _ _ (fun _ => rfl)).drew (by simp [go_sem, hng1]) (by simp [go_sem]) (by simp [go_sem, hng2]) (by simp [go_sem]) (by omega) (by omega) (by omega) (by simp [go_sem, lB, hsz3, hsz5]) (by simp [go_sem, lB, hsz3, hsz5])
          exact AllReadyH.nil
        exact AllReadyH.nil
      exact AllReadyH.nil
    refine AllReadyH.cons rfl (fun K hK => ?_) ?_
    · skip
      go_simp
      refine hK.out _ _ ?_ (fun hHeld => ?_)
      · (try dsimp only)
        (first | assumption | exact HS2.out _ ((Fr.refl _ _).drew) | exact HS2.out _ (((Fr.refl _ W4).alloc _).drew) | exact HS2.out _ ((((Fr.refl _ W4).alloc _).alloc _).drew) | exact (congrArg (fun r => r[0]?) (rowOf_drew _ _)).trans (HS3.out _ _ _ (((Fr.refl _ W4).alloc _).alloc _)) | (simp [go_sem, rB, lB, hsz3, hsz5]; done) | skip)
      clear hK K
      refine wpAnyH_ready (rs := [7]) (by kernel_rfl) (by simp) ?_
      refine AllReadyH.cons rfl (fun K hK => ?_) ?_
      · skip
        go_simp
        refine hK.out _ _ ?_ (fun hHeld => ?_)
        · (try dsimp only)
          (first | assumption | exact HS2.out _ ((Fr.refl _ _).drew) | exact HS2.out _ (((Fr.refl _ W4).alloc _).drew) | exact HS2.out _ ((((Fr.refl _ W4).alloc _).alloc _).drew) | exact (congrArg (fun r => r[0]?) (rowOf_drew _ _)).trans (HS3.out _ _ _ (((Fr.refl _ W4).alloc _).alloc _)) | (simp [go_sem, rB, lB, hsz3, hsz5]; done) | skip)
        clear hK K
        refine wpAnyH_take (i := 14) (oi := _) (v := ?_) rfl (by kernel_rfl) (by kernel_rfl) (by kernel_rfl) (fun _ _ _ h => h) (Or.inl ⟨by rfl, ?_⟩) (by assumption) ?_
        rotate_left
        · intro W hSw
          (try dsimp only at hSw)
          go_simp
          try with_reducible rfl
        try simp only [Act.put, List.setIfInBounds_toArray]
        refine wpAnyH_take (i := 15) (oi := _) (v := ?_) rfl (by kernel_rfl) (by kernel_rfl) (by kernel_rfl) (fun _ _ _ h => h) (Or.inl ⟨by rfl, ?_⟩) (by assumption) ?_
        rotate_left
        · intro W hSw
          (try dsimp only at hSw)
          go_simp
          try with_reducible rfl
        try simp only [Act.put]
        refine wpAnyH_ready (rs := [16]) (by kernel_rfl) (by simp) ?_
        refine AllReadyH.cons rfl (fun K hK => ?_) ?_
        · skip
          go_simp
          refine hK.out _ _ ?_ (fun hHeld => ?_)
          · (try dsimp only)
            (first | assumption | exact HS2.out _ ((Fr.refl _ _).drew) | exact HS2.out _ (((Fr.refl _ W4).alloc _).drew) | exact HS2.out _ ((((Fr.refl _ W4).alloc _).alloc _).drew) | exact (congrArg (fun r => r[0]?) (rowOf_drew _ _)).trans (HS3.out _ _ _ (((Fr.refl _ W4).alloc _).alloc _)) | (simp [go_sem, rB, lB, hsz3, hsz5]; done) | skip)
          clear hK K
          refine wpAnyH_take (i := 17) (oi := _) (v := ?_) rfl (by kernel_rfl) (by kernel_rfl) (by kernel_rfl) (fun _ _ _ h => h) (Or.inl ⟨by rfl, ?_⟩) (by assumption) ?_
          rotate_left
          · intro W hSw
            (try dsimp only at hSw)
            go_simp
            try with_reducible rfl
          try simp only [Act.put, List.setIfInBounds_toArray]
          refine wpAnyH_take (i := 18) (oi := _) (v := ?_) rfl (by kernel_rfl) (by kernel_rfl) (by kernel_rfl) (fun _ _ _ h => h) (Or.inl ⟨by rfl, ?_⟩) (by assumption) ?_
          rotate_left
          · intro W hSw
            (try dsimp only at hSw)
            go_simp
            try with_reducible rfl
          try simp only [Act.put]
          refine wpAnyH_ready (rs := [19]) (by kernel_rfl) (by simp) ?_
          refine AllReadyH.cons rfl (fun K hK => ?_) ?_
          · skip
            go_simp
            refine hK.out _ _ ?_ (fun hHeld => ?_)
            · (try dsimp only)
              (first | assumption | exact HS2.out _ ((Fr.refl _ _).drew) | exact HS2.out _ (((Fr.refl _ W4).alloc _).drew) | exact HS2.out _ ((((Fr.refl _ W4).alloc _).alloc _).drew) | exact (congrArg (fun r => r[0]?) (rowOf_drew _ _)).trans (HS3.out _ _ _ (((Fr.refl _ W4).alloc _).alloc _)) | (simp [go_sem, rB, lB, hsz3, hsz5]; done) | skip)
            clear hK K
            refine wpAnyH_done (by kernel_rfl) ?_ _
            refine NoPanic.normal ?_
            go_wp2_with fail
            go_meet
            case rel => exact Laid.made (gn := W4.heap.size + 1) (gi := W4.heap.size) HO4.out lB hbB HTP.out ((((Fr.refl (fun k => k = pB) W4).alloc _).alloc _).setRow _ _ (fun _ => rfl)).drew (by simp [go_sem, hng2]) (by simp [go_sem]) (by simp [go_sem, hng1]) (by simp [go_sem]) (by omega) (by omega) (by omega) (by simp [go_sem, lB, hsz3, hsz5]) (by simp [go_sem, lB, hsz3, hsz5])
          exact AllReadyH.nil
        exact AllReadyH.nil
      exact AllReadyH.nil
    exact AllReadyH.nil
    -- R2 END
  case rest =>
    obtain ⟨⟨gn, gi, hweb⟩, hfr⟩ := hcut
    have FW := Lib.hid (HF4.out.trans hfr (fun k hk e => by omega))
    have hrbC := (hfr.row (live_lt hlb4) (by omega)).trans hrb4
    have HD := Lib.hid (deps81 (HA.out.keep FW.out (fun _ _ e => e)) (HC.out.keep FW.out (fun _ _ e => e)) HH.out HB.out (HP.out.fr0 FW.out) hn2)
    have HWEB := Lib.hid hweb
    clear hweb hfr hrb4 hlb4 rB lB
    go_wp2_with (first
      | (go_at_call 81; refine HD.out.mono ?_; rintro e W5 ⟨bd, m, rfl, hbd, hm, hdp, hf5⟩; obtain ⟨fD, hmD, hDall⟩ := hdp; have HMD := Lib.hid hmD; have HDA := Lib.hid hDall; have HF5 := Lib.hid hf5; clear hmD hDall hf5)
      | (at_range; refine wpList_rangeF _ rfl _ 169 rfl law172 Tryz.underlying169 HMD.out rfl ?_; intro w0 cnt0 hrg0 hcn0 hf0 hs0))
    go_frame
    obtain ⟨rr, hrr⟩ : ∃ rr, W5.heap.size = rr := ⟨_, rfl⟩
    rw [hrr] at hrg0 hs0 ⊢
    have HRW := Lib.hid (by have := FW.out.size; have := HF5.out.size; omega : w.heap.size ≤ rr)
    have HF0 := Lib.hid (HF5.out.trans hf0 (fun _ _ e => e))
    have HWEB0 := Lib.hid (HWEB.out.fr0 HF0.out)
    have HCN0 := Lib.hid hcn0
    have HFW0 := Lib.hid (FW.out.trans HF0.out (fun _ _ e => e))
    have HWND := Lib.hid (HPM.out.nodup_iff.2 HH.out.nd)
    have HLW2 := Lib.hid (fun (i : Nat) (hi : i < ws.length) => (by rw [List.getElem?_eq_getElem hi]; rfl : ws[i]?.getD 0 = ws[i]))
    clear hcn0 hf0
    go_loopw [43] (fun _ wr => ∃ (left : Value → Prop) (cnt : Nat) (vs : List Value) (N : List (List Nat)), RangeF wr 172 bd rr m fD left cnt ∧ WebAt wr pB gn gi (.slice a ws.length c) ws vs N (List.replicate ws.length 0) w.heap.size ∧ NOk A C ws N ∧ (∀ (i : Nat) (l : List Nat), N[i]? = some l → l.length + cnt ≤ 33554432) ∧ Fr (fun _ => False) w wr) (fun _ wr => wr.rangeLeft bd rr)
    case atStart =>
      refine ⟨_, cnt0, _, _, hrg0, HWEB0.out, NOk.nil A C ws _, fun i l hl => ?_, HFW0.out⟩
      rw [List.getElem?_replicate] at hl
      split at hl
      · cases hl; have := HCN0.out; simp; omega
      · cases hl
    case round =>
      obtain ⟨left, cnt, vs, N, hrg, hW, hN, hL, hF⟩ := hrel
      have HRG := Lib.hid hrg
      have HW := Lib.hid hW
      have HN := Lib.hid hN
      have HL := Lib.hid hL
      have HF := Lib.hid hF
      have rpW := hW.rp
      clear hW hN hL hF hrg0 hs0 hrbC HWEB0 HF0 HFW0 HCN0
      go_wp2_with (at_next; refine wpList_nextF _ rfl _ rfl law172 rr rfl hrg ?_ ?_)
      · intro hc0 hl0
        clear hrg
        -- LF BEGIN
        have HLL := Lib.hid (fun (i : Nat) (l : List Nat) (h : N[i]? = some l) => (by have := HL.out i l h; omega : l.length ≤ 33554432))
        go_wp2_with fail
        go_loopw [88] (fun t88 wr => ∃ (i : Nat) (vs : List Value) (N : List (List Nat)) (I : List Int), t88 = .int .i64 (i : Nat) ∧ i ≤ ws.length ∧ WebAt wr pB gn gi (.slice a ws.length c) ws vs N I w.heap.size ∧ NOk A C ws N ∧ (∀ u, u < i → (N[u]?.getD []).Nodup) ∧ (∀ (i : Nat) (l : List Nat), N[i]? = some l → l.length ≤ 33554432) ∧ (∀ v, v < ws.length → I[v]? = some ((leadsTo N i v : Nat) : Int)) ∧ Fr (fun _ => False) w wr) (fun t88 _ => ws.length - (intOf t88).toNat)
        case atStart => exact ⟨0, vs, N, _, rfl, Nat.zero_le _, HW.out, HN.out, fun u hu => (by omega), HLL.out, fun v hv => by rw [List.getElem?_replicate, if_pos hv]; rfl, HF.out⟩
        case round =>
          obtain ⟨i, vs, N, I, rfl, hi, hW, hN, hND, hLL, hI, hF⟩ := hrel
          have HW := Lib.hid hW
          have HN := Lib.hid hN
          have HND := Lib.hid hND
          have HLL := Lib.hid hLL
          have HI := Lib.hid hI
          have HF := Lib.hid hF
          have rpI := hW.rp
          by_cases hlt : i < ws.length
          · have HLT := Lib.hid hlt
            obtain ⟨v, l, hv, hl⟩ := hW.get hlt
            have HVL := Lib.hid (And.intro hv hl)
            have hov := hW.own i v l hv hl
            obtain ⟨av, cv, hve⟩ := hov.len
            rw [natRows_length] at hve
            have HVE := Lib.hid hve
            have HSEP := Lib.hid (fun (k : Nat) (e : (Value.slice av l.length cv).ownBlock = some k) => HW.out.sep i v k hv (by rw [hve]; exact e))
            have HOV := Lib.hid (hve ▸ hov)
            have cR : (rowOf wr gn)[i]? = some (.slice av l.length cv) := by rw [hW.rn, List.getElem?_toArray, hv, hve]
            have hll := hLL i l hl
            have HSR := Lib.hid (H83 wr (.slice av l.length cv) l w.heap.size HOV.out (by omega))
            have hii : (i : Int) < (ws.length : Int) := by omega
            clear hv hl hov hve hW hN hND hLL hI hF
            go_wp2_with (go_at_call 83; refine HSR.out.mono ?_; rintro e W8 ⟨rfl, ys, hpe, hso8, ho8, hf8⟩; have HPE := Lib.hid hpe; have HSO8 := Lib.hid hso8; have HW8 := Lib.hid (HW.out.same HVL.out.1 (by rw [HVE.out]; exact hf8) (by rw [HVE.out]; exact ho8)); have HF8 := Lib.hid hf8; have HO8 := Lib.hid ho8; have hyl : ys.length < 2 ^ 41 := (by have := HPE.out.length_eq; omega); clear hpe hso8 hf8 ho8; go_upto_region 13 with fail)
            have rp8 := HW8.out.rp
            have cR8 : (rowOf W8 gn)[i]? = some (.slice av l.length cv) := by rw [HW8.out.rn, List.getElem?_toArray, HVL.out.1, HVE.out]
            have lgn := HW8.out.ln
            have ltgn := live_lt lgn
            have HSF13 := Lib.hid (fun (W' : World) (hfW : Fr (fun _ => False) W8 W') => ((hfW.row (rowOf_some_lt rp8) (fun e => e)).trans rp8 : rowOf W' pB = #[.slice a ws.length c, .slice (some ⟨gn, 0, none⟩) ws.length ws.length, .slice (some ⟨gi, 0, none⟩) ws.length ws.length]))
            have HCO := Lib.hid (H84 W8.drew (.slice av l.length cv) ys w.heap.size (HO8.out.keep (Fr.refl (fun _ => False) _).drew (fun _ _ e => e)) hyl HSO8.out)
            refine wp_region_noPanic ?_
            refine wp_region_held_drew (S := (fun w' => rowOf w' pB = #[.slice a ws.length c, .slice (some ⟨gn, 0, none⟩) ws.length ws.length, .slice (some ⟨gi, 0, none⟩) ws.length ws.length])) (by kernel_rfl) ?_ (fun hHeld => ?_)
            · (try dsimp only)
              (first | assumption | exact HSF13.out _ ((Fr.refl _ _).drew) | exact HSX13.out | exact HSY13.out _)
            refine wpAnyH_take (i := 0) (oi := _) (v := ?_) rfl (by kernel_rfl) (by kernel_rfl) (by kernel_rfl) (fun _ _ _ h => h) (Or.inl ⟨by rfl, ?_⟩) (by assumption) ?_
            rotate_left
            · intro W hSw
              (try dsimp only at hSw)
              go_simp
              try with_reducible rfl
            try simp only [Act.put, List.setIfInBounds_toArray]
            refine wpAnyH_take (i := 1) (oi := _) (v := ?_) rfl (by kernel_rfl) (by kernel_rfl) (by kernel_rfl) (fun _ _ _ h => h) (Or.inl ⟨by rfl, ?_⟩) (by assumption) ?_
            rotate_left
            · intro W hSw
              (try dsimp only at hSw)
              go_simp
              try with_reducible rfl
            try simp only [Act.put]
            refine wpAnyH_take (i := 2) (oi := _) (v := ?_) rfl (by kernel_rfl) (by kernel_rfl) (by kernel_rfl) (fun _ _ _ h => h) (Or.inl ⟨by rfl, ?_⟩) (by assumption) ?_
            rotate_left
            · intro W hSw
              (try dsimp only at hSw)
              go_simp
              try with_reducible rfl
            try simp only [Act.put]
            refine wpAnyH_take (i := 3) (oi := _) (v := ?_) rfl (by kernel_rfl) (by kernel_rfl) (by kernel_rfl) (fun _ _ _ h => h) (Or.inl ⟨by rfl, ?_⟩) (by assumption) ?_
            rotate_left
            · intro W hSw
              (try dsimp only at hSw)
              go_simp
              try with_reducible rfl
            try simp only [Act.put]
            refine wpAnyH_take (i := 4) (oi := _) (v := ?_) rfl (by kernel_rfl) (by kernel_rfl) (by kernel_rfl) (fun _ _ _ h => h) (Or.inl ⟨by rfl, ?_⟩) (by assumption) ?_
            rotate_left
            · intro W hSw
              (try dsimp only at hSw)
              go_simp
              try with_reducible rfl
            try simp only [Act.put]
            refine wpAnyH_take (i := 5) (oi := _) (v := ?_) rfl (by kernel_rfl) (by kernel_rfl) (by kernel_rfl) (fun _ _ _ h => h) (Or.inl ⟨by rfl, ?_⟩) (by assumption) ?_
            rotate_left
            · intro W hSw
              (try dsimp only at hSw)
              go_simp
              try with_reducible rfl
            try simp only [Act.put]
            refine wpAnyH_ready (rs := [6]) (by kernel_rfl) (by simp) ?_
            refine AllReadyH.cons rfl (fun K hK => ?_) ?_
            · skip
              go_simp
              go_at_call 84
              refine HCO.out.mono ?_
              rintro e w9 ⟨v9, zs, rfl, ho9, hnd9, hm9, hn9, hf9⟩
              obtain ⟨a9, c9, rfl⟩ := ho9.len
              rw [natRows_length] at ho9 hn9 ⊢
              have c9' := (congrArg (fun r => r[i]?) (hf9.row ((Nat.lt_of_lt_of_le ltgn (Nat.le_refl _))) (fun e => (HSEP.out _ e).2.1 rfl))).trans ((congrArg (fun r => r[i]?) (rowOf_drew _ _)).trans cR8)
              have l9 := (hf9.liv ltgn (fun e => (HSEP.out _ e).2.1 rfl)).trans ((live_drew _ _).trans lgn)
              have HSX13 := Lib.hid ((hf9.row ((rowOf_some_lt rp8)) (fun e => (HSEP.out _ e).1 rfl)).trans ((rowOf_drew _ _).trans rp8))
              have HSY13 := Lib.hid (fun (A' : Array Value) => (rowOf_setRow_ne w9 gn pB A' (by have := HW8.out.ne; omega)).trans HSX13.out)
              have hw10 := (HW8.out.fr0 (Fr.refl _ _).drew).setRow HVL.out.1 (v' := .slice a9 zs.length c9) (l' := zs) (by rw [HVE.out]; exact hf9) ho9 (fun k hk => .inl (by rw [HVE.out]; exact hn9 k hk))
              rw [List.set_set] at hw10
              have HW10 := Lib.hid hw10
              have HND9 := Lib.hid hnd9
              have HM9 := Lib.hid hm9
              have HF9 := Lib.hid hf9
              clear ho9 hnd9 hm9 hn9 hf9 hw10
              refine hK.out _ _ ?_ (fun hHeld => ?_)
              · (try dsimp only)
                (first | assumption | exact HSF13.out _ ((Fr.refl _ _).drew) | exact HSX13.out | exact HSY13.out _)
              clear hK K
              refine wpAnyH_take (i := 7) (oi := _) (v := ?_) rfl (by kernel_rfl) (by kernel_rfl) (by kernel_rfl) (fun _ _ _ h => h) (Or.inl ⟨by rfl, ?_⟩) (by assumption) ?_
              rotate_left
              · intro W hSw
                (try dsimp only at hSw)
                go_simp
                try with_reducible rfl
              try simp only [Act.put, List.setIfInBounds_toArray]
              refine wpAnyH_ready (rs := [8]) (by kernel_rfl) (by simp) ?_
              refine AllReadyH.cons rfl (fun K hK => ?_) ?_
              · skip
                go_simp
                refine hK.out _ _ ?_ (fun hHeld => ?_)
                · (try dsimp only)
                  (first | assumption | exact HSF13.out _ ((Fr.refl _ _).drew) | exact HSX13.out | exact HSY13.out _)
                clear hK K
                refine wpAnyH_done (by kernel_rfl) ?_ _
                refine NoPanic.normal ?_
                have HF10 := Lib.hid (((HF.out.trans HF8.out (fun k hk e => by have := (HOV.out.lt e).1; omega)).drew.trans HF9.out (fun k hk e => by have := (HOV.out.lt e).1; omega)).trans ((Fr.refl (fun k => k = gn) w9).setRow gn ((rowOf w9 gn).setIfInBounds i (.slice a9 zs.length c9)) (fun _ => rfl)) (fun k hk e => by have := HW.out.bs; omega))
                generalize w9.setRow gn ((rowOf w9 gn).setIfInBounds i (.slice a9 zs.length c9)) = w10 at *
                obtain ⟨vs', hvs'⟩ : ∃ vs', vs.set i (.slice a9 zs.length c9) = vs' := ⟨_, rfl⟩
                obtain ⟨N', hN'⟩ : ∃ N', N.set i zs = N' := ⟨_, rfl⟩
                have hv10 : vs'[i]? = some (.slice a9 zs.length c9) := by rw [← hvs', List.getElem?_set_self (by rw [HW.out.vn]; exact HLT.out)]
                have hl10 : N'[i]? = some zs := by rw [← hN', List.getElem?_set_self (by rw [HW.out.nn]; exact HLT.out)]
                rw [hvs', hN'] at HW10
                have hiN : i < N.length := by rw [HW.out.nn]; exact HLT.out
                have HNO := Lib.hid (hN' ▸ HN.out.same hiN HVL.out.2 (fun x hx => HPE.out.mem_iff.1 ((HM9.out x).1 hx)) : NOk A C ws N')
                have HLEA := Lib.hid (fun (v : Nat) => (leadsTo_congr (N := N) (N' := N') (i := i) (fun u hu => by rw [← hN', getD_set hiN, if_neg (by omega)]) v : leadsTo N i v = leadsTo N' i v))
                have HNDN := Lib.hid (fun (u : Nat) (hu : u < i + 1) => (by
                  rw [← hN', getD_set hiN]
                  by_cases e : u = i
                  · rw [if_pos e]; exact HND9.out
                  · rw [if_neg e]; exact HND.out u (by omega) : (N'[u]?.getD []).Nodup))
                have HLN := Lib.hid (fun (i' : Nat) (l' : List Nat) (hl' : N'[i']? = some l') => (by
                  by_cases e : i' = i
                  · subst e
                    rw [hl10] at hl'; cases hl'
                    have h1 := nodup_le zs (List.range ws.length) HND9.out (fun x hx => List.mem_range.2 (HNO.out i' x HLT.out (by rw [hl10]; exact hx)).1)
                    rw [List.length_range] at h1; omega
                  · rw [← hN', List.getElem?_set_ne (fun h => e h.symm)] at hl'
                    exact HLL.out i' l' hl' : l'.length ≤ 33554432))
                have HV10 := Lib.hid hv10
                have HL10 := Lib.hid hl10
                have hzl : zs.length ≤ 33554432 := HLN.out i zs hl10
                have rp10 := HW10.out.rp
                have c10 : (rowOf w10 gn)[i]? = some (.slice a9 zs.length c9) := by rw [HW10.out.rn, List.getElem?_toArray, hv10]
                clear hvs' hN' hv10 hl10 hiN cR8 c9' l9 lgn ltgn rp8
                go_wp2_with fail
                go_loopw [111] (fun t111 wr => ∃ (j : Nat) (I' : List Int), t111 = .int .i64 (j : Nat) ∧ j ≤ zs.length ∧ WebAt wr pB gn gi (.slice a ws.length c) ws vs' N' I' w.heap.size ∧ (∀ v, v < ws.length → I'[v]? = some ((leadsTo N' i v + (if v ∈ zs.take j then 1 else 0) : Nat) : Int)) ∧ Fr (fun _ => False) w wr) (fun t111 _ => zs.length - (intOf t111).toNat)
                case atStart => exact ⟨0, I, rfl, Nat.zero_le _, HW10.out, fun v hv => by rw [HI.out v hv, HLEA.out v]; simp, HF10.out⟩
                case round =>
                  obtain ⟨j, I', rfl, hj, hWj, hIj, hFj⟩ := hrel
                  have HWJ := Lib.hid hWj
                  have HIJ := Lib.hid hIj
                  have HFJ := Lib.hid hFj
                  have rpJ := hWj.rp
                  by_cases hltj : j < zs.length
                  · have hoj := hWj.own i _ zs HV10.out HL10.out
                    obtain ⟨gz, rfl, -, hlgz, -, -, hszz, hgetz⟩ := hoj.get (k := j) (by rw [natRows_length]; exact hltj)
                    have hrowz : (natRows zs)[j]'(by rw [natRows_length]; exact hltj) = #[.int .i64 (zs[j] : Nat)] := by simp [natRows]
                    have cz : (rowOf wr gz)[j]? = some (.int .i64 (zs[j] : Nat)) := by have := hgetz 0 (by omega); rw [hrowz] at this; simpa using this
                    have htl : zs[j] < ws.length := (HNO.out i _ HLT.out (by rw [HL10.out]; exact List.getElem_mem hltj)).1
                    have hnt : zs[j] ∉ zs.take j := fun hm => by
                      obtain ⟨i', hi', e⟩ := List.getElem_of_mem hm
                      rw [List.length_take] at hi'
                      rw [List.getElem_take] at e
                      have := (List.getElem_inj (i := i') (j := j) (h₀ := by omega) (h₁ := hltj) HND9.out).1 e
                      omega
                    have HTZ := Lib.hid (List.take_succ_eq_append_getElem hltj)
                    have hx := hIj _ htl
                    rw [if_neg hnt, Nat.add_zero] at hx
                    have hlea := leadsTo_le N' i zs[j]
                    have cI : (rowOf wr gi)[zs[j]]? = some (.int .i64 ((leadsTo N' i zs[j] : Nat) : Int)) := by rw [hWj.ri, List.getElem?_toArray, List.getElem?_map, hx]; rfl
                    have lgi := hWj.li
                    have HLTJ := Lib.hid hltj
                    have HNT := Lib.hid hnt
                    have HTL := Lib.hid htl
                    have hji : (j : Int) < (zs.length : Int) := by omega
                    generalize hq : zs[j] = q at *
                    obtain ⟨x, hxe⟩ : ∃ x, leadsTo N' i q = x := ⟨_, rfl⟩
                    rw [hxe] at cI hlea
                    have hqi : (q : Int) < (ws.length : Int) := by omega
                    have hw1 : IntKind.i64.wrap ((x : Int) + 1) = (x : Int) + 1 := by rw [IntKind.wrap_i64]; have := HLT.out; omega
                    have HWS := Lib.hid (hWj.setInto q ((x : Int) + 1))
                    have HII := Lib.hid hWj.ii
                    have HXE := Lib.hid hxe
                    clear hgetz hrowz hoj hWj hIj hFj hx hnt htl hxe hq
                    go_wp2_with fail
                    go_roundw
                    case rel =>
                      refine ⟨j + 1, _, by go_num, by have := HLTJ.out; omega, HWS.out, fun v hv => ?_, HFJ.out.trans ((Fr.refl (fun k => k = gi) _).setRow _ _ (fun _ => rfl)) (fun k hk e => by have := HWJ.out.bs; omega)⟩
                      by_cases e : v = q
                      · subst e
                        rw [List.getElem?_set_self (by rw [HII.out]; exact hv), HTZ.out, if_pos (by simp), HXE.out]; rfl
                      · rw [List.getElem?_set_ne (fun h => e h.symm), HIJ.out v hv, HTZ.out]
                        simp [e]
                    case measure => (have := HLTJ.out; simp only [intOf]; omega)
                  · obtain rfl : j = zs.length := by omega
                    clear hWj hIj hFj
                    go_wp2_with fail
                    go_roundw
                    case rel =>
                      refine ⟨i + 1, vs', N', I', by go_num, by have := HLT.out; omega, HWJ.out, HNO.out, HNDN.out, HLN.out, fun v hv => ?_, HFJ.out⟩
                      rw [HIJ.out v hv, List.take_length, leadsTo_succ, HL10.out]; rfl
                    case measure => (have := HLT.out; simp only [intOf]; omega)
              exact AllReadyH.nil
            exact AllReadyH.nil
          · obtain rfl : i = ws.length := by omega
            clear hW hN hND hLL hI hF
            go_wp2_with fail
            go_ret
            refine ⟨pB, gn, gi, _, ws, vs, N, I, rfl, Lib.hid ⟨HW.out, ⟨HW.out.nn, HW.out.ii, fun l hl => ?_, fun i j hi hj hj2 => (HN.out i j hi hj).2, fun v hv => ?_⟩, HPM.out, HF.out⟩⟩
            · obtain ⟨u, hu, rfl⟩ := List.getElem_of_mem hl
              have hu2 : u < ws.length := by rw [← HW.out.nn]; exact hu
              have e : N[u]?.getD [] = N[u] := by rw [List.getElem?_eq_getElem hu]; rfl
              exact ⟨e ▸ HND.out u hu2, fun v hv => by rw [HW.out.nn]; exact (HN.out u v hu2 (by rw [e]; exact hv)).1⟩
            · rw [HI.out v (by rw [← HW.out.nn]; exact hv), ← HW.out.nn, leadsTo_all]
        -- LF END
      · -- LE BEGIN
        intro key x kl w1 cnt1 hkey hlk hfx hrg1 hlt hf1 hs1 hen
        obtain ⟨s, t, d, rfl, hdep⟩ := HDA.out _ _ hfx
        obtain ⟨hsC, htC⟩ := hdep.mem HH.out
        obtain ⟨i0, hi0, hsi⟩ := List.getElem_of_mem (HPM.out.mem_iff.2 hsC)
        obtain ⟨j0, hj0, htj⟩ := List.getElem_of_mem (HPM.out.mem_iff.2 htC)
        have HI0 := Lib.hid hi0
        have HJ0 := Lib.hid hj0
        have HDEP := Lib.hid hdep
        have HSI := Lib.hid (by rw [List.getElem?_eq_getElem hi0, hsi] : ws[i0]? = some s)
        have HTJ := Lib.hid (by rw [List.getElem?_eq_getElem hj0, htj] : ws[j0]? = some t)
        have hnl : ∀ g, live wr g = true → g ≠ rr ∧ g ≠ bd := fun g hg => ⟨HRG.out.ne_live hg, HRG.out.map.ne_live hg⟩
        have hlw1 : live w1 pB = true ∧ live w1 gn = true := ⟨(hf1.liv (live_lt HW.out.lp) (hnl _ HW.out.lp).1).trans HW.out.lp, (hf1.liv (live_lt HW.out.ln) (hnl _ HW.out.ln).1).trans HW.out.ln⟩
        have hW1 := HW.out.frm hf1 (fun k hk => (hnl k hk).1)
        have HW1 := Lib.hid hW1
        have HRG1 := Lib.hid hrg1
        have HF1 := Lib.hid (HF.out.trans hf1 (fun k hk e => by have := HRW.out; omega))
        have hen' := hen
        unfold depV at hen ⊢
        clear hW1 hrg1 hfx hdep hsC htC hsi htj hi0 hj0 hlk hkey hs1 hrg hf1 hen' hnl rpW
        obtain ⟨hBf, hBr, hBl, hBlt⟩ := boxed_new w1 #[.int .i64 0, .int .i64 0, .int .i64 0] #[.int .i64 (s : Nat), .int .i64 (t : Nat), .int .i64 (d : Nat)] 172
        go_upto_region 6 with fail
        generalize (w1.alloc (.cells #[.int .i64 0, .int .i64 0, .int .i64 0] 172)).setRow w1.heap.size #[.int .i64 (s : Nat), .int .i64 (t : Nat), .int .i64 (d : Nat)] = WB at hBf hBr hBl hBlt ⊢
        obtain ⟨bD, hbD⟩ : ∃ bD, w1.heap.size = bD := ⟨_, rfl⟩
        rw [hbD] at hBr hBl hBlt ⊢
        have HFB := Lib.hid hBf
        have HWB := Lib.hid (HW1.out.fr0 hBf)
        have rpX := HWB.out.rp
        have rdX := hBr
        clear hBf hBr hbD hBl hBlt hen hlw1
        have HSF6 := Lib.hid (fun (W' : World) (hfW : Fr (fun _ => False) WB W') => (⟨(hfW.row (rowOf_some_lt rpX) (fun e => e)).trans rpX, (hfW.row (rowOf_some_lt rdX) (fun e => e)).trans rdX⟩ : rowOf W' pB = #[.slice a ws.length c, .slice (some ⟨gn, 0, none⟩) ws.length ws.length, .slice (some ⟨gi, 0, none⟩) ws.length ws.length] ∧ rowOf W' bD = #[.int .i64 (s : Nat), .int .i64 (t : Nat), .int .i64 (d : Nat)]))
        have HBS6 := Lib.hid (H82 WB.drew (.slice a ws.length c) ws w.heap.size (HWB.out.tx.keep (Fr.refl (fun _ => False) _).drew (fun _ _ e => e)) (by omega) HSO.out HWND.out i0 s HSI.out)
        go_upto_region 6 with fail
        refine wp_region_noPanic ?_
        refine wp_region_held_drew (S := (fun w' => rowOf w' pB = #[.slice a ws.length c, .slice (some ⟨gn, 0, none⟩) ws.length ws.length, .slice (some ⟨gi, 0, none⟩) ws.length ws.length] ∧ rowOf w' bD = #[.int .i64 (s : Nat), .int .i64 (t : Nat), .int .i64 (d : Nat)])) (by kernel_rfl) ?_ (fun hHeld => ?_)
        · (try dsimp only)
          (first | assumption | exact HSF6.out _ ((Fr.refl _ _).drew) | exact HSX6.out)
        refine wpAnyH_take (i := 0) (oi := _) (v := ?_) rfl (by kernel_rfl) (by kernel_rfl) (by kernel_rfl) (fun _ _ _ h => h) (Or.inl ⟨by rfl, ?_⟩) (by assumption) ?_
        rotate_left
        · intro W hSw
          (try dsimp only at hSw)
          go_simp
          try with_reducible rfl
        try simp only [Act.put, List.setIfInBounds_toArray]
        refine wpAnyH_take (i := 1) (oi := _) (v := ?_) rfl (by kernel_rfl) (by kernel_rfl) (by kernel_rfl) (fun _ _ _ h => h) (Or.inl ⟨by rfl, ?_⟩) (by assumption) ?_
        rotate_left
        · intro W hSw
          (try dsimp only at hSw)
          go_simp
          try with_reducible rfl
        try simp only [Act.put]
        refine wpAnyH_take (i := 2) (oi := _) (v := ?_) rfl (by kernel_rfl) (by kernel_rfl) (by kernel_rfl) (fun _ _ _ h => h) (Or.inl ⟨by rfl, ?_⟩) (by assumption) ?_
        rotate_left
        · intro W hSw
          (try dsimp only at hSw)
          go_simp
          try with_reducible rfl
        try simp only [Act.put]
        refine wpAnyH_take (i := 3) (oi := _) (v := ?_) rfl (by kernel_rfl) (by kernel_rfl) (by kernel_rfl) (fun _ _ _ h => h) (Or.inl ⟨by rfl, ?_⟩) (by assumption) ?_
        rotate_left
        · intro W hSw
          (try dsimp only at hSw)
          go_simp
          try with_reducible rfl
        try simp only [Act.put]
        refine wpAnyH_take (i := 4) (oi := _) (v := ?_) rfl (by kernel_rfl) (by kernel_rfl) (by kernel_rfl) (fun _ _ _ h => h) (Or.inl ⟨by rfl, ?_⟩) (by assumption) ?_
        rotate_left
        · intro W hSw
          (try dsimp only at hSw)
          go_simp
          try with_reducible rfl
        try simp only [Act.put]
        refine wpAnyH_take (i := 5) (oi := _) (v := ?_) rfl (by kernel_rfl) (by kernel_rfl) (by kernel_rfl) (fun _ _ _ h => h) (Or.inl ⟨by rfl, ?_⟩) (by assumption) ?_
        rotate_left
        · intro W hSw
          (try dsimp only at hSw)
          go_simp
          try with_reducible rfl
        try simp only [Act.put]
        refine wpAnyH_ready (rs := [6]) (by kernel_rfl) (by simp) ?_
        refine AllReadyH.cons rfl (fun K hK => ?_) ?_
        · skip
          go_simp
          go_at_call 82
          refine HBS6.out.mono ?_
          rintro e W6 ⟨rfl, hf6⟩
          have HFX6 := Lib.hid ((Fr.refl (fun _ => False) WB).drew.trans hf6 (fun _ _ e => e))
          have HSX6 := Lib.hid (HSF6.out W6 HFX6.out)
          clear hf6
          refine hK.out _ _ ?_ (fun hHeld => ?_)
          · (try dsimp only)
            (first | assumption | exact HSF6.out _ ((Fr.refl _ _).drew) | exact HSX6.out)
          clear hK K
          refine wpAnyH_take (i := 7) (oi := _) (v := ?_) rfl (by kernel_rfl) (by kernel_rfl) (by kernel_rfl) (fun _ _ _ h => h) (Or.inl ⟨by rfl, ?_⟩) (by assumption) ?_
          rotate_left
          · intro W hSw
            (try dsimp only at hSw)
            go_simp
            try with_reducible rfl
          try simp only [Act.put, List.setIfInBounds_toArray]
          refine wpAnyH_take (i := 8) (oi := _) (v := ?_) rfl (by kernel_rfl) (by kernel_rfl) (by kernel_rfl) (fun _ _ _ h => h) (Or.inl ⟨by rfl, ?_⟩) (by assumption) ?_
          rotate_left
          · intro W hSw
            (try dsimp only at hSw)
            go_simp
            try with_reducible rfl
          try simp only [Act.put]
          refine wpAnyH_take (i := 9) (oi := _) (v := ?_) rfl (by kernel_rfl) (by kernel_rfl) (by kernel_rfl) (fun _ _ _ h => h) (Or.inl ⟨by rfl, ?_⟩) (by assumption) ?_
          rotate_left
          · intro W hSw
            (try dsimp only at hSw)
            go_simp
            try with_reducible rfl
          try simp only [Act.put]
          refine wpAnyH_take (i := 10) (oi := _) (v := ?_) rfl (by kernel_rfl) (by kernel_rfl) (by kernel_rfl) (fun _ _ _ h => h) (Or.inl ⟨by rfl, ?_⟩) (by assumption) ?_
          rotate_left
          · intro W hSw
            (try dsimp only at hSw)
            go_simp
            try with_reducible rfl
          try simp only [Act.put]
          refine wpAnyH_take (i := 11) (oi := _) (v := ?_) rfl (by kernel_rfl) (by kernel_rfl) (by kernel_rfl) (fun _ _ _ h => h) (Or.inl ⟨by rfl, ?_⟩) (by assumption) ?_
          rotate_left
          · intro W hSw
            (try dsimp only at hSw)
            go_simp
            try with_reducible rfl
          try simp only [Act.put]
          refine wpAnyH_done (by kernel_rfl) ?_ _
          refine NoPanic.normal ?_
          have HW6 := Lib.hid (HWB.out.fr0 HFX6.out)
          have rp6 := HSX6.out.1
          have rd6 := HSX6.out.2
          clear rpX rdX
          have rpX := rp6
          have rdX := rd6
          have HSF7 := Lib.hid (fun (W' : World) (hfW : Fr (fun _ => False) W6 W') => (⟨(hfW.row (rowOf_some_lt rpX) (fun e => e)).trans rpX, (hfW.row (rowOf_some_lt rdX) (fun e => e)).trans rdX⟩ : rowOf W' pB = #[.slice a ws.length c, .slice (some ⟨gn, 0, none⟩) ws.length ws.length, .slice (some ⟨gi, 0, none⟩) ws.length ws.length] ∧ rowOf W' bD = #[.int .i64 (s : Nat), .int .i64 (t : Nat), .int .i64 (d : Nat)]))
          have HBS7 := Lib.hid (H82 W6.drew (.slice a ws.length c) ws w.heap.size (HW6.out.tx.keep (Fr.refl (fun _ => False) _).drew (fun _ _ e => e)) (by omega) HSO.out HWND.out j0 t HTJ.out)
          go_upto_region 7 with fail
          refine wp_region_noPanic ?_
          refine wp_region_held_drew (S := (fun w' => rowOf w' pB = #[.slice a ws.length c, .slice (some ⟨gn, 0, none⟩) ws.length ws.length, .slice (some ⟨gi, 0, none⟩) ws.length ws.length] ∧ rowOf w' bD = #[.int .i64 (s : Nat), .int .i64 (t : Nat), .int .i64 (d : Nat)])) (by kernel_rfl) ?_ (fun hHeld => ?_)
          · (try dsimp only)
            (first | assumption | exact HSF7.out _ ((Fr.refl _ _).drew) | exact HSX7.out)
          refine wpAnyH_take (i := 0) (oi := _) (v := ?_) rfl (by kernel_rfl) (by kernel_rfl) (by kernel_rfl) (fun _ _ _ h => h) (Or.inl ⟨by rfl, ?_⟩) (by assumption) ?_
          rotate_left
          · intro W hSw
            (try dsimp only at hSw)
            go_simp
            try with_reducible rfl
          try simp only [Act.put]
          refine wpAnyH_take (i := 1) (oi := _) (v := ?_) rfl (by kernel_rfl) (by kernel_rfl) (by kernel_rfl) (fun _ _ _ h => h) (Or.inl ⟨by rfl, ?_⟩) (by assumption) ?_
          rotate_left
          · intro W hSw
            (try dsimp only at hSw)
            go_simp
            try with_reducible rfl
          try simp only [Act.put]
          refine wpAnyH_take (i := 2) (oi := _) (v := ?_) rfl (by kernel_rfl) (by kernel_rfl) (by kernel_rfl) (fun _ _ _ h => h) (Or.inl ⟨by rfl, ?_⟩) (by assumption) ?_
          rotate_left
          · intro W hSw
            (try dsimp only at hSw)
            go_simp
            try with_reducible rfl
          try simp only [Act.put]
          refine wpAnyH_take (i := 3) (oi := _) (v := ?_) rfl (by kernel_rfl) (by kernel_rfl) (by kernel_rfl) (fun _ _ _ h => h) (Or.inl ⟨by rfl, ?_⟩) (by assumption) ?_
          rotate_left
          · intro W hSw
            (try dsimp only at hSw)
            go_simp
            try with_reducible rfl
          try simp only [Act.put]
          refine wpAnyH_take (i := 4) (oi := _) (v := ?_) rfl (by kernel_rfl) (by kernel_rfl) (by kernel_rfl) (fun _ _ _ h => h) (Or.inl ⟨by rfl, ?_⟩) (by assumption) ?_
          rotate_left
          · intro W hSw
            (try dsimp only at hSw)
            go_simp
            try with_reducible rfl
          try simp only [Act.put]
          refine wpAnyH_take (i := 5) (oi := _) (v := ?_) rfl (by kernel_rfl) (by kernel_rfl) (by kernel_rfl) (fun _ _ _ h => h) (Or.inl ⟨by rfl, ?_⟩) (by assumption) ?_
          rotate_left
          · intro W hSw
            (try dsimp only at hSw)
            go_simp
            try with_reducible rfl
          try simp only [Act.put]
          refine wpAnyH_ready (rs := [6]) (by kernel_rfl) (by simp) ?_
          refine AllReadyH.cons rfl (fun K hK => ?_) ?_
          · skip
            go_simp
            go_at_call 82
            refine HBS7.out.mono ?_
            rintro e W7 ⟨rfl, hf7⟩
            have HFX7 := Lib.hid ((Fr.refl (fun _ => False) W6).drew.trans hf7 (fun _ _ e => e))
            have HSX7 := Lib.hid (HSF7.out W7 HFX7.out)
            clear hf7
            refine hK.out _ _ ?_ (fun hHeld => ?_)
            · (try dsimp only)
              (first | assumption | exact HSF7.out _ ((Fr.refl _ _).drew) | exact HSX7.out)
            clear hK K
            refine wpAnyH_take (i := 7) (oi := _) (v := ?_) rfl (by kernel_rfl) (by kernel_rfl) (by kernel_rfl) (fun _ _ _ h => h) (Or.inl ⟨by rfl, ?_⟩) (by assumption) ?_
            rotate_left
            · intro W hSw
              (try dsimp only at hSw)
              go_simp
              try with_reducible rfl
            try simp only [Act.put, List.setIfInBounds_toArray]
            refine wpAnyH_take (i := 8) (oi := _) (v := ?_) rfl (by kernel_rfl) (by kernel_rfl) (by kernel_rfl) (fun _ _ _ h => h) (Or.inl ⟨by rfl, ?_⟩) (by assumption) ?_
            rotate_left
            · intro W hSw
              (try dsimp only at hSw)
              go_simp
              try with_reducible rfl
            try simp only [Act.put]
            refine wpAnyH_take (i := 9) (oi := _) (v := ?_) rfl (by kernel_rfl) (by kernel_rfl) (by kernel_rfl) (fun _ _ _ h => h) (Or.inl ⟨by rfl, ?_⟩) (by assumption) ?_
            rotate_left
            · intro W hSw
              (try dsimp only at hSw)
              go_simp
              try with_reducible rfl
            try simp only [Act.put]
            refine wpAnyH_take (i := 10) (oi := _) (v := ?_) rfl (by kernel_rfl) (by kernel_rfl) (by kernel_rfl) (fun _ _ _ h => h) (Or.inl ⟨by rfl, ?_⟩) (by assumption) ?_
            rotate_left
            · intro W hSw
              (try dsimp only at hSw)
              go_simp
              try with_reducible rfl
            try simp only [Act.put]
            refine wpAnyH_take (i := 11) (oi := _) (v := ?_) rfl (by kernel_rfl) (by kernel_rfl) (by kernel_rfl) (fun _ _ _ h => h) (Or.inl ⟨by rfl, ?_⟩) (by assumption) ?_
            rotate_left
            · intro W hSw
              (try dsimp only at hSw)
              go_simp
              try with_reducible rfl
            try simp only [Act.put]
            refine wpAnyH_done (by kernel_rfl) ?_ _
            refine NoPanic.normal ?_
            have HW7 := Lib.hid (HW6.out.fr0 HFX7.out)
            have rp7 := HSX7.out.1
            have rd7 := HSX7.out.2
            clear rpX rdX
            have HF17 := Lib.hid ((HFB.out.trans HFX6.out (fun _ _ e => e)).trans HFX7.out (fun _ _ e => e))
            obtain ⟨v, l, hv, hl⟩ := HW7.out.get HI0.out
            have HVL := Lib.hid (And.intro hv hl)
            have hov := HW7.out.own i0 v l hv hl
            obtain ⟨av, cv, hve⟩ := hov.len
            rw [natRows_length] at hve
            have HVE := Lib.hid hve
            have HSEP := Lib.hid (fun (k : Nat) (e : (Value.slice av l.length cv).ownBlock = some k) => HW7.out.sep i0 v k hv (by rw [hve]; exact e))
            have HOV := Lib.hid (hve ▸ hov)
            have cR : (rowOf W7 gn)[i0]? = some (.slice av l.length cv) := by rw [HW7.out.rn, List.getElem?_toArray, hv, hve]
            have lgn := HW7.out.ln
            have ltgn := live_lt lgn
            have hll := HL.out i0 l hl
            have rpX := rp7
            have hi0i : (i0 : Int) < (ws.length : Int) := by have := HI0.out; omega
            have hw7 : w.heap.size ≤ W7.heap.size := (HF1.out.trans HF17.out (fun _ _ e => e)).size
            have HSF8 := Lib.hid (fun (W' : World) (hfW : Fr (fun _ => False) W7 W') => ((hfW.row (rowOf_some_lt rpX) (fun e => e)).trans rpX : rowOf W' pB = #[.slice a ws.length c, .slice (some ⟨gn, 0, none⟩) ws.length ws.length, .slice (some ⟨gi, 0, none⟩) ws.length ws.length]))
            clear hv hl hov hve rd7
            go_upto_region 8 with fail
            refine wp_region_noPanic ?_
            refine wp_region_held_drew (S := (fun w' => rowOf w' pB = #[.slice a ws.length c, .slice (some ⟨gn, 0, none⟩) ws.length ws.length, .slice (some ⟨gi, 0, none⟩) ws.length ws.length])) (by kernel_rfl) ?_ (fun hHeld => ?_)
            · (try dsimp only)
              (first | assumption | exact HSF8.out _ ((Fr.refl _ _).drew) | exact HSF8.out _ (((Fr.refl _ _).alloc _).drew) | exact HSX8.out | exact HSY8.out _)
            refine wpAnyH_take (i := 0) (oi := _) (v := ?_) rfl (by kernel_rfl) (by kernel_rfl) (by kernel_rfl) (fun _ _ _ h => h) (Or.inl ⟨by rfl, ?_⟩) (by assumption) ?_
            rotate_left
            · intro W hSw
              (try dsimp only at hSw)
              go_simp
              try with_reducible rfl
            try simp only [Act.put]
            refine wpAnyH_take (i := 1) (oi := _) (v := ?_) rfl (by kernel_rfl) (by kernel_rfl) (by kernel_rfl) (fun _ _ _ h => h) (Or.inl ⟨by rfl, ?_⟩) (by assumption) ?_
            rotate_left
            · intro W hSw
              (try dsimp only at hSw)
              go_simp
              try with_reducible rfl
            try simp only [Act.put]
            refine wpAnyH_take (i := 2) (oi := _) (v := ?_) rfl (by kernel_rfl) (by kernel_rfl) (by kernel_rfl) (fun _ _ _ h => h) (Or.inl ⟨by rfl, ?_⟩) (by assumption) ?_
            rotate_left
            · intro W hSw
              (try dsimp only at hSw)
              go_simp
              try with_reducible rfl
            try simp only [Act.put]
            refine wpAnyH_take (i := 3) (oi := _) (v := ?_) rfl (by kernel_rfl) (by kernel_rfl) (by kernel_rfl) (fun _ _ _ h => h) (Or.inl ⟨by rfl, ?_⟩) (by assumption) ?_
            rotate_left
            · intro W hSw
              (try dsimp only at hSw)
              go_simp
              try with_reducible rfl
            try simp only [Act.put]
            refine wpAnyH_take (i := 4) (oi := _) (v := ?_) rfl (by kernel_rfl) (by kernel_rfl) (by kernel_rfl) (fun _ _ _ h => h) (Or.inl ⟨by rfl, ?_⟩) (by assumption) ?_
            rotate_left
            · intro W hSw
              (try dsimp only at hSw)
              go_simp
              try with_reducible rfl
            try simp only [Act.put]
            refine wpAnyH_take (i := 5) (oi := _) (v := ?_) rfl (by kernel_rfl) (by kernel_rfl) (by kernel_rfl) (fun _ _ _ h => h) (Or.inl ⟨by rfl, ?_⟩) (by assumption) ?_
            rotate_left
            · intro W hSw
              (try dsimp only at hSw)
              go_simp
              try with_reducible rfl
            try simp only [Act.put]
            refine wpAnyH_take (i := 6) (oi := _) (v := ?_) rfl (by kernel_rfl) (by kernel_rfl) (by kernel_rfl) (fun _ _ _ h => h) (Or.inl ⟨by rfl, ?_⟩) (by assumption) ?_
            rotate_left
            · intro W hSw
              (try dsimp only at hSw)
              go_simp
              try with_reducible rfl
            try simp only [Act.put]
            refine wpAnyH_take (i := 7) (oi := _) (v := ?_) rfl (by kernel_rfl) (by kernel_rfl) (by kernel_rfl) (fun _ _ _ h => h) (Or.inl ⟨by rfl, ?_⟩) (by assumption) ?_
            rotate_left
            · intro W hSw
              (try dsimp only at hSw)
              go_simp
              try with_reducible rfl
            try simp only [Act.put]
            refine wpAnyH_take (i := 8) (oi := _) (v := ?_) rfl (by kernel_rfl) (by kernel_rfl) (by kernel_rfl) (fun _ _ _ h => h) (Or.inl ⟨by rfl, ?_⟩) (by assumption) ?_
            rotate_left
            · intro W hSw
              (try dsimp only at hSw)
              go_simp
              try with_reducible rfl
            try simp only [Act.put]
            refine wpAnyH_take (i := 9) (oi := _) (v := ?_) rfl (by kernel_rfl) (by kernel_rfl) (by kernel_rfl) (fun _ _ _ h => h) (Or.inl ⟨by rfl, ?_⟩) (by assumption) ?_
            rotate_left
            · intro W hSw
              (try dsimp only at hSw)
              go_simp
              try with_reducible rfl
            try simp only [Act.put]
            refine wpAnyH_take (i := 10) (oi := _) (v := ?_) rfl (by kernel_rfl) (by kernel_rfl) (by kernel_rfl) (fun _ _ _ h => h) (Or.inl ⟨by rfl, ?_⟩) (by assumption) ?_
            rotate_left
            · intro W hSw
              (try dsimp only at hSw)
              go_simp
              try with_reducible rfl
            try simp only [Act.put]
            refine wpAnyH_take (i := 12) (oi := _) (v := ?_) rfl (by kernel_rfl) (by kernel_rfl) (by kernel_rfl) (fun _ _ _ h => h) (Or.inl ⟨by rfl, ?_⟩) (by assumption) ?_
            rotate_left
            · intro W hSw
              (try dsimp only at hSw)
              go_simp
              try with_reducible rfl
            try simp only [Act.put]
            refine wpAnyH_ready (rs := [11, 13]) (by kernel_rfl) (by simp) ?_
            refine AllReadyH.cons rfl (fun K hK => ?_) ?_
            · skip
              go_simp
              refine hK.out _ _ ?_ (fun hHeld => ?_)
              · (try dsimp only)
                (first | assumption | exact HSF8.out _ ((Fr.refl _ _).drew) | exact HSF8.out _ (((Fr.refl _ _).alloc _).drew) | exact HSX8.out | exact HSY8.out _)
              clear hK K
              refine wpAnyH_ready (rs := [13]) (by kernel_rfl) (by simp) ?_
              refine AllReadyH.cons rfl (fun K hK => ?_) ?_
              · skip
                go_simp
                refine hK.out _ _ ?_ (fun hHeld => ?_)
                · (try dsimp only)
                  (first | assumption | exact HSF8.out _ ((Fr.refl _ _).drew) | exact HSF8.out _ (((Fr.refl _ _).alloc _).drew) | exact HSX8.out | exact HSY8.out _)
                clear hK K
                refine wpAnyH_ready (rs := [14]) (by kernel_rfl) (by simp) ?_
                refine AllReadyH.cons rfl (fun K hK => ?_) ?_
                · skip
                  refine step_append_one (o := ⟨some 81, _, _, _, _, _⟩) rfl (.tmp 78) (.tmp 80) 32 rfl 3 _ 1 8 Tryz.underlying32 ti3 (.slice av l.length cv) (natRows l) w.heap.size rfl ((HOV.out).keep (((Fr.refl (fun _ => False) W7).alloc _).drew) (fun _ _ h => h)) (by simp; omega) W7.heap.size 1 rfl #[.int .i64 (j0 : Nat)] (by simp [go_sem]) (by simp [go_sem]; rfl) (by intro z hz; simp at hz; rcases hz with rfl; rfl) (natRows_size _) (by rw [natRows_length]; simp only [maxLen]; omega) (fitsN (by rw [natRows_length]; omega) (by omega)) ?_
                  intro g' cap' w4 ho4 f4 hn4
                  rw [natRows_length] at ho4 ⊢
                  have f74 : Fr (fun i => (Value.slice av l.length cv).ownBlock = some i) W7 w4 := ((((Fr.refl (fun _ => False) W7).alloc _).drew).mono (fun _ _ e => e.elim)).trans f4 (fun _ _ e => e)
                  have HSX8 := Lib.hid ((f74.row (rowOf_some_lt rpX) (fun e => (HSEP.out _ e).1 rfl)).trans rpX)
                  have c4 := (congrArg (fun r => r[i0]?) (f74.row ltgn (fun e => (HSEP.out _ e).2.1 rfl))).trans cR
                  have l4 := (f74.liv ltgn (fun e => (HSEP.out _ e).2.1 rfl)).trans lgn
                  have HSY8 := Lib.hid (fun (A' : Array Value) => (rowOf_setRow_ne w4 gn pB A' (by have := HW7.out.ne; omega)).trans HSX8.out)
                  have HWF := Lib.hid (HW7.out.setRow (v' := .slice (some ⟨g', 0, none⟩) (l.length + 1) cap') (l' := l ++ [j0]) HVL.out.1 (by rw [HVE.out]; exact f74) (by rw [natRows_snoc]; exact ho4) (fun k hk => by rw [HVE.out]; simp only [Value.ownBlock, Option.some.injEq] at hk ⊢; subst hk; exact hn4.elim (fun e => .inl (by simpa [Value.ownBlock] using e)) (fun e => .inr (by simp at e; omega))))
                  have HFF := Lib.hid (f74)
                  clear ho4 f4 hn4 f74
                  refine hK.out _ _ ?_ (fun hHeld => ?_)
                  · (try dsimp only)
                    (first | assumption | exact HSF8.out _ ((Fr.refl _ _).drew) | exact HSF8.out _ (((Fr.refl _ _).alloc _).drew) | exact HSX8.out | exact HSY8.out _)
                  clear hK K
                  refine wpAnyH_take (i := 15) (oi := _) (v := ?_) rfl (by kernel_rfl) (by kernel_rfl) (by kernel_rfl) (fun _ _ _ h => h) (Or.inl ⟨by rfl, ?_⟩) (by assumption) ?_
                  rotate_left
                  · intro W hSw
                    (try dsimp only at hSw)
                    go_simp
                    try with_reducible rfl
                  try simp only [Act.put, List.setIfInBounds_toArray, List.set_cons_zero, List.set_cons_succ]
                  refine wpAnyH_ready (rs := [16]) (by kernel_rfl) (by simp) ?_
                  refine AllReadyH.cons rfl (fun K hK => ?_) ?_
                  · skip
                    go_simp
                    refine hK.out _ _ ?_ (fun hHeld => ?_)
                    · (try dsimp only)
                      (first | assumption | exact HSF8.out _ ((Fr.refl _ _).drew) | exact HSF8.out _ (((Fr.refl _ _).alloc _).drew) | exact HSX8.out | exact HSY8.out _)
                    clear hK K
                    refine wpAnyH_done (by kernel_rfl) ?_ _
                    refine NoPanic.normal ?_
                    go_wp2
                    go_roundw
                    case rel =>
                      refine ⟨fun u => left u ∧ u ≠ depV s t d, cnt1, _, _, ?_, HWF.out, HN.out.snoc (by rw [HW7.out.nn]; exact HI0.out) HVL.out.2 HJ0.out (by rw [HSI.out, HTJ.out]; exact HDEP.out), fun i' l' hl' => ?_, ?_⟩
                      · have h1 := HRG1.out.fr HF17.out (fun e => e) (fun e => e)
                        have h2 := h1.fr HFF.out (fun e => h1.map.ne_live (HOV.out.liv e) rfl) (fun e => h1.ne_live (HOV.out.liv e) rfl)
                        exact h2.fr ((Fr.refl (fun k => k = gn) _).setRow _ _ (fun _ => rfl)) (fun e => h1.map.ne_live HW7.out.ln e.symm) (fun e => h1.ne_live HW7.out.ln e.symm)
                      · by_cases e : i' = i0
                        · subst e
                          rw [List.getElem?_set_self (by rw [HW7.out.nn]; exact HI0.out)] at hl'
                          cases hl'
                          have := HL.out _ l HVL.out.2
                          rw [List.length_append]; simp; omega
                        · rw [List.getElem?_set_ne (fun h => e h.symm)] at hl'
                          have := HL.out i' l' hl'; omega
                      · have hb := HW7.out.bs
                        refine ((HF1.out.trans HF17.out (fun _ _ e => e)).trans HFF.out (fun k hk e => by have := (HOV.out.lt e).1; omega)).trans ((Fr.refl (fun k => k = gn) _).setRow _ _ (fun _ => rfl)) (fun k hk e => by omega)
                    case measure => (have h1 := (HRG1.out.fr HF17.out (fun e => e) (fun e => e)); have h2 := h1.fr HFF.out (fun e => h1.map.ne_live (HOV.out.liv e) rfl) (fun e => h1.ne_live (HOV.out.liv e) rfl); have h3 := h2.fr ((Fr.refl (fun k => k = gn) w4).setRow gn ((rowOf w4 gn).setIfInBounds i0 (.slice (some ⟨g', 0, none⟩) (l.length + 1) cap')) (fun _ => rfl)) (fun e => h1.map.ne_live HW7.out.ln e.symm) (fun e => h1.ne_live HW7.out.ln e.symm); rw [h3.left_eq, HRG.out.left_eq]; exact hlt)
                  exact AllReadyH.nil
                exact AllReadyH.nil
              exact AllReadyH.nil
            refine AllReadyH.cons rfl (fun K hK => ?_) ?_
            · skip
              go_simp
              refine hK.out _ _ ?_ (fun hHeld => ?_)
              · (try dsimp only)
                (first | assumption | exact HSF8.out _ ((Fr.refl _ _).drew) | exact HSF8.out _ (((Fr.refl _ _).alloc _).drew) | exact HSX8.out | exact HSY8.out _)
              clear hK K
              refine wpAnyH_ready (rs := [11]) (by kernel_rfl) (by simp) ?_
              refine AllReadyH.cons rfl (fun K hK => ?_) ?_
              · skip
                go_simp
                refine hK.out _ _ ?_ (fun hHeld => ?_)
                · (try dsimp only)
                  (first | assumption | exact HSF8.out _ ((Fr.refl _ _).drew) | exact HSF8.out _ (((Fr.refl _ _).alloc _).drew) | exact HSX8.out | exact HSY8.out _)
                clear hK K
                refine wpAnyH_ready (rs := [14]) (by kernel_rfl) (by simp) ?_
                refine AllReadyH.cons rfl (fun K hK => ?_) ?_
                · skip
                  refine step_append_one (o := ⟨some 81, _, _, _, _, _⟩) rfl (.tmp 78) (.tmp 80) 32 rfl 3 _ 1 8 Tryz.underlying32 ti3 (.slice av l.length cv) (natRows l) w.heap.size rfl ((HOV.out).keep (((Fr.refl (fun _ => False) W7).alloc _).drew) (fun _ _ h => h)) (by simp; omega) W7.heap.size 1 rfl #[.int .i64 (j0 : Nat)] (by simp [go_sem]) (by simp [go_sem]; rfl) (by intro z hz; simp at hz; rcases hz with rfl; rfl) (natRows_size _) (by rw [natRows_length]; simp only [maxLen]; omega) (fitsN (by rw [natRows_length]; omega) (by omega)) ?_
                  intro g' cap' w4 ho4 f4 hn4
                  rw [natRows_length] at ho4 ⊢
                  have f74 : Fr (fun i => (Value.slice av l.length cv).ownBlock = some i) W7 w4 := ((((Fr.refl (fun _ => False) W7).alloc _).drew).mono (fun _ _ e => e.elim)).trans f4 (fun _ _ e => e)
                  have HSX8 := Lib.hid ((f74.row (rowOf_some_lt rpX) (fun e => (HSEP.out _ e).1 rfl)).trans rpX)
                  have c4 := (congrArg (fun r => r[i0]?) (f74.row ltgn (fun e => (HSEP.out _ e).2.1 rfl))).trans cR
                  have l4 := (f74.liv ltgn (fun e => (HSEP.out _ e).2.1 rfl)).trans lgn
                  have HSY8 := Lib.hid (fun (A' : Array Value) => (rowOf_setRow_ne w4 gn pB A' (by have := HW7.out.ne; omega)).trans HSX8.out)
                  have HWF := Lib.hid (HW7.out.setRow (v' := .slice (some ⟨g', 0, none⟩) (l.length + 1) cap') (l' := l ++ [j0]) HVL.out.1 (by rw [HVE.out]; exact f74) (by rw [natRows_snoc]; exact ho4) (fun k hk => by rw [HVE.out]; simp only [Value.ownBlock, Option.some.injEq] at hk ⊢; subst hk; exact hn4.elim (fun e => .inl (by simpa [Value.ownBlock] using e)) (fun e => .inr (by simp at e; omega))))
                  have HFF := Lib.hid (f74)
                  clear ho4 f4 hn4 f74
                  refine hK.out _ _ ?_ (fun hHeld => ?_)
                  · (try dsimp only)
                    (first | assumption | exact HSF8.out _ ((Fr.refl _ _).drew) | exact HSF8.out _ (((Fr.refl _ _).alloc _).drew) | exact HSX8.out | exact HSY8.out _)
                  clear hK K
                  refine wpAnyH_take (i := 15) (oi := _) (v := ?_) rfl (by kernel_rfl) (by kernel_rfl) (by kernel_rfl) (fun _ _ _ h => h) (Or.inl ⟨by rfl, ?_⟩) (by assumption) ?_
                  rotate_left
                  · intro W hSw
                    (try dsimp only at hSw)
                    go_simp
                    try with_reducible rfl
                  try simp only [Act.put, List.setIfInBounds_toArray, List.set_cons_zero, List.set_cons_succ]
                  refine wpAnyH_ready (rs := [16]) (by kernel_rfl) (by simp) ?_
                  refine AllReadyH.cons rfl (fun K hK => ?_) ?_
                  · skip
                    go_simp
                    refine hK.out _ _ ?_ (fun hHeld => ?_)
                    · (try dsimp only)
                      (first | assumption | exact HSF8.out _ ((Fr.refl _ _).drew) | exact HSF8.out _ (((Fr.refl _ _).alloc _).drew) | exact HSX8.out | exact HSY8.out _)
                    clear hK K
                    refine wpAnyH_done (by kernel_rfl) ?_ _
                    refine NoPanic.normal ?_
                    go_wp2
                    go_roundw
                    case rel =>
                      refine ⟨fun u => left u ∧ u ≠ depV s t d, cnt1, _, _, ?_, HWF.out, HN.out.snoc (by rw [HW7.out.nn]; exact HI0.out) HVL.out.2 HJ0.out (by rw [HSI.out, HTJ.out]; exact HDEP.out), fun i' l' hl' => ?_, ?_⟩
                      · have h1 := HRG1.out.fr HF17.out (fun e => e) (fun e => e)
                        have h2 := h1.fr HFF.out (fun e => h1.map.ne_live (HOV.out.liv e) rfl) (fun e => h1.ne_live (HOV.out.liv e) rfl)
                        exact h2.fr ((Fr.refl (fun k => k = gn) _).setRow _ _ (fun _ => rfl)) (fun e => h1.map.ne_live HW7.out.ln e.symm) (fun e => h1.ne_live HW7.out.ln e.symm)
                      · by_cases e : i' = i0
                        · subst e
                          rw [List.getElem?_set_self (by rw [HW7.out.nn]; exact HI0.out)] at hl'
                          cases hl'
                          have := HL.out _ l HVL.out.2
                          rw [List.length_append]; simp; omega
                        · rw [List.getElem?_set_ne (fun h => e h.symm)] at hl'
                          have := HL.out i' l' hl'; omega
                      · have hb := HW7.out.bs
                        refine ((HF1.out.trans HF17.out (fun _ _ e => e)).trans HFF.out (fun k hk e => by have := (HOV.out.lt e).1; omega)).trans ((Fr.refl (fun k => k = gn) _).setRow _ _ (fun _ => rfl)) (fun k hk e => by omega)
                    case measure => (have h1 := (HRG1.out.fr HF17.out (fun e => e) (fun e => e)); have h2 := h1.fr HFF.out (fun e => h1.map.ne_live (HOV.out.liv e) rfl) (fun e => h1.ne_live (HOV.out.liv e) rfl); have h3 := h2.fr ((Fr.refl (fun k => k = gn) w4).setRow gn ((rowOf w4 gn).setIfInBounds i0 (.slice (some ⟨g', 0, none⟩) (l.length + 1) cap')) (fun _ => rfl)) (fun e => h1.map.ne_live HW7.out.ln e.symm) (fun e => h1.ne_live HW7.out.ln e.symm); rw [h3.left_eq, HRG.out.left_eq]; exact hlt)
                  exact AllReadyH.nil
                exact AllReadyH.nil
              exact AllReadyH.nil
            exact AllReadyH.nil
          exact AllReadyH.nil
        exact AllReadyH.nil
        -- LE END
end Go.Proofs.YteldfmgjbgedaaaGreat
