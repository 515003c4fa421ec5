/-
  Package serial: Check, Orders, Order.
-/
import Derived.Test.YteldfmgjbgedaaaGreatTi
import Derived.StillTailTactics
namespace Go.Proofs.YteldfmgjbgedaaaGreat
open Go.RowKit Go.Maps Go.Shelf

attribute [local go_sem] Oper.semAt_some

/-- A range over a function whose iterator yields once; the body leaves by 'return'. -/
theorem rangeFunc_once {g : Operand} {ps : Array Tmp} {assign body : Code} {Q : Exit → Act → World → Prop} {a : Act} {w : World} {gf : Nat} {lb : Array Value} (hg : a.eval g = .func (.func gf) #[] lb) (eg : ∀ args w, (callFunc gf args).run Tryz.prog w = .ok (.enter gf args) w) (hps : ps.size = 1)
    (S : Value → Prop) (Ix : World → Prop) (hIx : ∀ W W', Ix W → Fr (fun k => w.heap.size ≤ k) W W' → Ix W')
    (hiter : ∀ (l : Nat) (W1 : World) (Post : World → Prop), Fr (fun _ => False) w W1 → (∀ W x, Fr (fun _ => False) W1 W → S x → YieldAt Fence.wide 0 Tryz.prog l #[x] W fun e W' => e = .returned (.bool false) ∧ Post W') → Calls Tryz.prog gf (#[.func (.yield l) #[] #[]] ++ lb) W1 fun e W' => (∃ v, e = .returned v) ∧ Post W')
    (a₁ : Value → Act)
    (hassign : ∀ (l : Nat) (x : Value) (W : World) (K : Act → World → Prop), K (a₁ x) W →
      assign.wpIn (Fence.wide.inRound l) 0 Tryz.prog (Exit.then K (fun _ _ _ => False)) { tmps := (ps.zip #[x]).foldl (fun t (p, v) => t.setIfInBounds p v) a.tmps, defers := [] } W)
    (hbody : ∀ (l : Nat) (W : World) (x : Value), S x → Fr (fun k => w.heap.size ≤ k) w W → body.wpIn (Fence.wide.inRound l) 0 Tryz.prog (fun e _ W3 => e = .ret ∧ KeepsOthers W W3 ∧ Ix W3) (a₁ x) W)
    (hstop : ∀ (D : Nat) (W : World), w.heap.size ≤ D → Ix W → W.heap[D]? = some (.deferred (some [])) → Code.ret.wpIn Fence.wide 2 Tryz.prog Q { a with defers := { target := .collected D, args := #[] } :: a.defers } W) :
    (Code.rangeFunc g ps assign body).wpIn Fence.wide 2 Tryz.prog Q a w := by
  refine wpIn_rangeFunc ?_
  intro fn hfn
  rw [show Fence.wide.round = none from rfl]
  obtain ⟨rec, hrec⟩ : ∃ rec : LoopState → Option Code → Loop, rec = fun st pe => { state := st, pending := pe, fn, tmps := a.tmps, params := ps, assign, body, defers := w.heap.size } := ⟨_, rfl⟩
  obtain ⟨W1, hW1⟩ : ∃ W1, (w.alloc (.deferred (some []))).alloc (.loop (rec .ready none)) = W1 := ⟨_, rfl⟩
  have hL1 : W1.heap[w.heap.size + 1]? = some (.loop (rec .ready none)) := by
    rw [← hW1]; have := World.alloc_heap_new (w.alloc (.deferred (some []))) (.loop (rec .ready none)); rwa [World.size_alloc] at this
  have hK1 : W1.heap[w.heap.size]? = some (.deferred (some [])) := by
    rw [← hW1]; exact (Below.heap_alloc _ _ _ (by simp)).trans (World.alloc_heap_new w _)
  have hf1 : Fr (fun _ => False) w W1 := by rw [← hW1]; exact ((Fr.refl _ _).alloc _).alloc _
  have hs1 : W1.heap.size = w.heap.size + 2 := by rw [← hW1]; simp
  have frP : ∀ (W : World) (l : Nat) (o : Obj), Fr (fun k => k = l) W (W.putObj l o) := fun W l o => grown_fr (grownBy_putObj' W l o)
  refine ⟨w.heap.size + 1, [{ target := .collected w.heap.size, args := #[] }], W1, { target := .fn (.func gf) lb, args := #[.func (.yield (w.heap.size + 1)) #[] #[]] }, W1, gf,
    #[.func (.yield (w.heap.size + 1)) #[] #[]] ++ lb, W1, ?_, ?_, ?_, ?_, fun _ => by omega, ?_⟩
  · rw [← hW1, hrec]; exact run_enterLoop_outer _ _ _ _ _
  · simp only [resolve, hg]
    simp [go_sem]
  · intro f' _; trivial
  · simp [invoke, go_sem, eg]
  · refine (callsIn_wide.2 (hiter (w.heap.size + 1) W1
      (fun W => Ix W ∧ W.heap[w.heap.size + 1]? = some (.loop (rec .done (some .ret))) ∧ W.heap[w.heap.size]? = some (.deferred (some []))) hf1 ?_)).mono ?_
    · intro W x hfW hx
      have hl : W.heap[w.heap.size + 1]? = some (.loop (rec .ready none)) := (hfW.block _ (by omega) (fun e => e)).trans hL1
      have hk : W.heap[w.heap.size]? = some (.deferred (some [])) := (hfW.block _ (by omega) (fun e => e)).trans hK1
      have hlt : w.heap.size + 1 < W.heap.size := (Array.getElem?_eq_some_iff.1 hl).1
      have hy := run_yield (P := Tryz.prog) (args := #[x]) hl (by rw [hrec]; exact hps.symm)
      rw [hrec] at hy
      refine ⟨fn, _, assign, body, hy, roundIn_of_wpIn hfn (hassign _ x W _ ⟨_, run_beginRound hl (by rw [hrec]), ?_⟩)⟩
      have hl2 : (W.putObj (w.heap.size + 1) (.loop { rec .ready none with state := .busy })).heap[w.heap.size + 1]? = some (.loop { rec .ready none with state := .busy }) := World.putObj_heap_same hlt
      have hk2 : (W.putObj (w.heap.size + 1) (.loop { rec .ready none with state := .busy })).heap[w.heap.size]? = some (.deferred (some [])) := (World.putObj_heap_other (by omega)).trans hk
      have hfw : Fr (fun k => w.heap.size ≤ k) w (W.putObj (w.heap.size + 1) (.loop { rec .ready none with state := .busy })) :=
        ((hf1.trans hfW (fun _ _ e => e)).mono (G := fun k => w.heap.size ≤ k) (fun _ _ e => e.elim)).trans (frP _ _ _) (fun k _ e => by omega)
      refine wpIn_mono (hbody _ _ x hx hfw) ?_
      rintro e a3 W3 ⟨rfl, hk3, hi3⟩
      have hl3 := hk3.same _ _ hl2 rfl
      have hr := run_endRound (P := Tryz.prog) (some .ret) hl3
      have hl4 := World.putObj_heap_same (w := W3) (o := .loop (rec .done (some .ret))) (Array.getElem?_eq_some_iff.1 hl3).1
      have hk4 : (W3.putObj (w.heap.size + 1) (.loop (rec .done (some .ret)))).heap[w.heap.size]? = some (.deferred (some [])) := (World.putObj_heap_other (by omega)).trans (hk3.same _ _ hk2 rfl)
      rw [hrec] at hr hl4 hk4 ⊢
      exact ⟨_, _, hr, rfl, hIx _ _ hi3 ((frP _ _ _).mono (fun k _ e => by omega)), hl4, hk4⟩
    · rintro e W2 ⟨⟨v, rfl⟩, hi, hl, hk⟩
      exact ⟨some .ret, _, by have := run_endLoop (P := Tryz.prog) hl (by rw [hrec]; simp); rw [hrec] at this; exact this, hstop _ _ (Nat.le_refl _) (hIx _ _ hi ((frP _ _ _).mono (fun k _ e => by omega))) ((World.putObj_heap_other (by omega)).trans hk)⟩

section
variable {W1 : World} {p gn gi bw l : Nat} {tv : Value} {ws : List Nat} {vs : List Value} {N : List (List Nat)} {I : List Int} {base : Nat} {E : Nat → Nat → Prop} {Post : World → Prop}

set_option maxRecDepth 20000 in
set_option maxHeartbeats 4000000 in
theorem it50 (hW : WebAt W1 p gn gi tv ws vs N I base) (hK : WebOk E ws N I) (hs : ∀ U : List Nat, U ≠ [] → (∀ u ∈ U, u < N.length) → ∃ t ∈ U, ∀ s ∈ U, ¬ t ∈ N[s]?.getD []) (hm : ws.length ≤ 4096) (hb : rowOf W1 bw = #[.pointer (some ⟨p, 0, none⟩)])
    (hY : ∀ (W : World) (v : Value) (xs : List Nat) (bs : Nat), Fr (fun _ => False) W1 W → OwnRows W v 1 (natRows xs) bs → xs.length = ws.length → YieldAt Fence.wide 0 Tryz.prog l #[v] W fun e W' => e = .returned (.bool false) ∧ Post W') :
    Calls Tryz.prog 50 #[.func (.yield l) #[] #[], .pointer (some ⟨bw, 0, none⟩)] W1 fun e W' => (∃ v, e = .returned v) ∧ Post W' := by
  have H51 : Calls Tryz.prog 51 #[.pointer (some ⟨p, 0, none⟩)] W1 fun e w' => e = .returned (.bool true) ∧ Fr (fun _ => False) W1 w' := by
    by_cases hn : 0 < ws.length
    · exact serial51_some hW hK hs hn hm
    · obtain rfl : ws = [] := List.eq_nil_of_length_eq_zero (by omega)
      exact serial51_none hW
  have H52 : ∀ W2, Fr (fun _ => False) W1 W2 → Calls Tryz.prog 52 #[.pointer (some ⟨p, 0, none⟩), .slice (some ⟨gi, 0, none⟩) ws.length ws.length, .slice none 0 0, .func (.yield l) #[] #[]] W2 fun e w' => e = .returned (.bool false) ∧ Post w' := by
    intro W2 hf
    by_cases hn : 0 < ws.length
    · exact orders52_all (W0 := W2) (hW.fr0 hf) hK hs hm (fun W v xs bs hfW => hY W v xs bs (hf.trans hfW (fun _ _ e => e))) ws.length W2 _ _ I [] [] 0 (Fr.refl _ _) (by simp) rfl hK.taking ((hW.fr0 hf).into_own hn hm) (OwnRows.nil _ _ _) (fun _ => hn)
    · obtain rfl : ws = [] := List.eq_nil_of_length_eq_zero (by omega)
      exact orders52_end (hW.fr0 hf) hm (OwnRows.nil _ _ 0) rfl (fun W v bs hfW ho => hY W v [] bs (hf.trans hfW (fun _ _ e => e)) ho rfl)
  have HF51 := Lib.hid H51
  have HF52 := Lib.hid H52
  have rp := hW.rp
  obtain ⟨at', ct', hte⟩ := hW.tx.len
  rw [natRows_length] at hte
  rw [hte] at rp
  have ltp := rowOf_some_lt rp
  have ltb := rowOf_some_lt hb
  clear H51 H52 hW hY hs hK hte
  go_enter Tryz.func50, Tryz.ntmps50
  go_wp2_with (go_at_call 51; refine HF51.out.mono ?_; rintro e W2 ⟨rfl, hf⟩; have HF := Lib.hid hf; have rp2 := (hf.row ltp (fun e => e)).trans rp; have rb2 := (hf.row ltb (fun e => e)).trans hb; clear hf)
  go_still_tail 6, (by kernel_rfl)
  change wpList _ _ _ _ _ W2.drew
  go_wp2_with (go_at_call 52; refine (HF52.out W2.drew (HF.out.drew)).mono ?_; rintro e w6 ⟨rfl, hP⟩)
  go_end0
  exact ⟨⟨_, rfl⟩, hP⟩
end

section
variable {w : World} {A : List PAct} {C : List Nat} {vc va : Value} {ba bc : Nat}

set_option maxRecDepth 20000 in
set_option maxHeartbeats 2000000 in
theorem check23 (H77 : Sorts77) (hA : OwnRows w va 4 (A.map actRow) ba) (hC : OwnRows w vc 1 (natRows C) bc) (hh : HistOk A C) (hB : ActsB A C) : Calls Tryz.prog 23 #[.agg #[vc, va]] w fun e w' => e = .returned (.int .i64 0) ∧ Fr (fun _ => False) w w' := by
  obtain ⟨aa, ca, rfl⟩ := hA.len
  obtain ⟨ac, cc, rfl⟩ := hC.len
  rw [List.length_map] at hA ⊢
  rw [natRows_length] at hC ⊢
  have hf1 : Fr (fun _ => False) w (w.alloc (.cells #[.slice ac C.length cc, .slice aa A.length ca] 42)) := (Fr.refl _ _).alloc _
  have HR := Lib.hid (read47 H77 (hA.keep hf1 (fun _ _ e => e)) (hC.keep hf1 (fun _ _ e => e)) hh hB)
  have HF1 := Lib.hid hf1
  clear hA hC hh hB hf1
  go_enter Tryz.func23, Tryz.ntmps23
  go_wp2_with (go_at_call 47; refine HR.out.mono ?_; rintro e w2 ⟨n1, n2, n3, f, V, rfl, hn2, hR⟩; have HRS := Lib.hid (HF1.out.trans hR.fr (fun _ _ e => e)); clear hR)
  go_ret
  exact ⟨rfl, HRS.out⟩

set_option maxRecDepth 20000 in
set_option maxHeartbeats 2000000 in
theorem orders24 (H77 : Sorts77) (H79 : Sorted79) (H82 : Search82) (H83 : Sorts83) (H84 : Compact84) (hA : OwnRows w va 4 (A.map actRow) ba) (hC : OwnRows w vc 1 (natRows C) bc) (hh : HistOk A C) (hB : ActsB A C) :
    Calls Tryz.prog 24 #[.agg #[vc, va]] w fun e w' => ∃ bw p gn gi tv ws vs N I b, e = .returned (.func (.func 50) #[] #[.pointer (some ⟨bw, 0, none⟩)]) ∧ Hid (rowOf w' bw = #[.pointer (some ⟨p, 0, none⟩)] ∧ WebAt w' p gn gi tv ws vs N I b ∧ WebOk (SDep A C) ws N I ∧ ws.Perm C ∧ Fr (fun _ => False) w w') := by
  obtain ⟨aa, ca, rfl⟩ := hA.len
  obtain ⟨ac, cc, rfl⟩ := hC.len
  rw [List.length_map] at hA ⊢
  rw [natRows_length] at hC ⊢
  have hf1 : Fr (fun _ => False) w (w.alloc (.cells #[.slice ac C.length cc, .slice aa A.length ca] 42)) := (Fr.refl _ _).alloc _
  have hrb : rowOf (w.alloc (.cells #[.slice ac C.length cc, .slice aa A.length ca] 42)) w.heap.size = #[.slice ac C.length cc, .slice aa A.length ca] := rowOf_alloc_at _ _ _ _ _ rfl
  have hlb : live (w.alloc (.cells #[.slice ac C.length cc, .slice aa A.length ca] 42)) w.heap.size = true := live_alloc_at _ _ _ _ rfl
  have hA1 := hA.keep hf1 (fun _ _ e => e)
  have hC1 := hC.keep hf1 (fun _ _ e => e)
  have HA1 := Lib.hid hA1
  have HC1 := Lib.hid hC1
  have HR := Lib.hid (read47 H77 hA1 hC1 hh hB)
  have HF1 := Lib.hid hf1
  have HH := Lib.hid hh
  have HB := Lib.hid hB
  clear hA hC hh hB hf1 hA1 hC1
  go_enter Tryz.func24, Tryz.ntmps24
  go_upto_region 1 with fail
  generalize w.alloc (.cells #[.slice ac C.length cc, .slice aa A.length ca] 42) = W1 at *
  go_wp2_with (first
    | (go_at_call 47; refine HR.out.mono ?_; rintro e w2 ⟨n1, n2, n3, f, V, rfl, hn2, hR⟩; have HRS := Lib.hid hR; have hrb2 := (hR.fr.row (live_lt hlb) (fun e => e)).trans hrb; have HWB := Lib.hid (web49 H79 H82 H83 H84 (HA1.out.keep hR.fr (fun _ _ e => e)) (HC1.out.keep hR.fr (fun _ _ e => e)) HH.out HB.out (hist_of_RS hR) hn2); clear hR)
    | (go_at_call 49; refine HWB.out.mono ?_; rintro e w3 ⟨p, gn, gi, tv, ws, vs, N, I, rfl, hX⟩; have hfX := hX.out.2.2.2))
  go_ret
  obtain ⟨h1, h2, h3, h4⟩ := hX.out
  obtain ⟨b1, b2, -, -⟩ := boxed_new w3 #[.pointer none] #[.pointer (some ⟨p, 0, none⟩)] 125
  exact ⟨w3.heap.size, p, gn, gi, tv, ws, vs, N, I, _, rfl, Lib.hid ⟨b2, h1.fr0 b1, h2, h3, ((HF1.out.trans HRS.out.fr (fun _ _ e => e)).trans h4 (fun _ _ e => e)).trans b1 (fun _ _ e => e)⟩⟩

/-- Order under way: the boxed history, the results' cells. -/
structure OS (w wr : World) (vc va r1 r2 r3 : Value) : Prop where
  fr : Fr (fun _ => False) w wr
  h0 : rowOf wr w.heap.size = #[vc, va] ∧ live wr w.heap.size = true
  h1 : rowOf wr (w.heap.size + 1) = #[r1] ∧ live wr (w.heap.size + 1) = true
  h2 : rowOf wr (w.heap.size + 2) = #[r2] ∧ live wr (w.heap.size + 2) = true
  h3 : rowOf wr (w.heap.size + 3) = #[r3] ∧ live wr (w.heap.size + 3) = true
theorem OS.frk {w wr wr' : World} {vc va r1 r2 r3 : Value} (h : OS w wr vc va r1 r2 r3) {F : Nat → Prop} (hf : Fr F wr wr') (hF : ∀ k, F k → w.heap.size + 4 ≤ k) : OS w wr' vc va r1 r2 r3 := by
  have key : ∀ {k : Nat} {R : Array Value}, k < w.heap.size + 4 → rowOf wr k = R ∧ live wr k = true → rowOf wr' k = R ∧ live wr' k = true := fun hk h =>
    ⟨(hf.row (live_lt h.2) (fun e => by have := hF _ e; omega)).trans h.1, (hf.liv (live_lt h.2) (fun e => by have := hF _ e; omega)).trans h.2⟩
  exact ⟨h.fr.trans hf (fun k hk e => by have := hF k e; omega), key (by omega) h.h0, key (by omega) h.h1, key (by omega) h.h2, key (by omega) h.h3⟩
theorem OS.made (w : World) (vc va : Value) : OS w ((((w.alloc (.cells #[vc, va] 42)).alloc (.cells #[.slice none 0 0] 32)).alloc (.cells #[.bool false] 4)).alloc (.cells #[.int .i64 0] 26)) vc va (.slice none 0 0) (.bool false) (.int .i64 0) := by
  have f : ∀ (W : World) (o : Obj), Fr (fun _ => False) W (W.alloc o) := fun W o => (Fr.refl _ _).alloc o
  have tr : ∀ {a b c : World}, Fr (fun _ => False) a b → Fr (fun _ => False) b c → Fr (fun _ => False) a c := fun h k => h.trans k (fun _ _ e => e)
  have at_ : ∀ (W : World) (c : Array Value) (t : TypeId) (k : Nat), k = W.heap.size → rowOf (W.alloc (.cells c t)) k = c ∧ live (W.alloc (.cells c t)) k = true := fun W c t k hk => ⟨rowOf_alloc_at _ _ _ _ _ hk, live_alloc_at _ _ _ _ hk⟩
  have keep : ∀ {W W' : World} {k : Nat} {R : Array Value}, Fr (fun _ => False) W W' → rowOf W k = R ∧ live W k = true → rowOf W' k = R ∧ live W' k = true := fun hf h => ⟨(hf.row (live_lt h.2) (fun e => e)).trans h.1, (hf.liv (live_lt h.2) (fun e => e)).trans h.2⟩
  exact ⟨tr (tr (tr (f _ _) (f _ _)) (f _ _)) (f _ _), keep (tr (tr (f _ _) (f _ _)) (f _ _)) (at_ _ _ _ _ rfl), keep (tr (f _ _) (f _ _)) (at_ _ _ _ _ (by simp)), keep (f _ _) (at_ _ _ _ _ (by simp)), at_ _ _ _ _ (by simp)⟩

theorem keeps_one {W : World} {g : Nat} {r x : Value} (h : rowOf W g = #[r]) : KeepsOthers W (W.setRow g #[x]) := by
  have := KeepsOthers.setCell W ⟨g, 0, none⟩ x
  rw [setCell_row, h] at this
  exact this
theorem OS.stored {w W : World} {vc va r1 r2 r3 x1 x2 x3 : Value} (h : OS w W vc va r1 r2 r3) :
    KeepsOthers W (((W.setRow (w.heap.size + 1) #[x1]).setRow (w.heap.size + 1 + 1) #[x2]).setRow (w.heap.size + 1 + 1 + 1) #[x3]) ∧ OS w (((W.setRow (w.heap.size + 1) #[x1]).setRow (w.heap.size + 1 + 1) #[x2]).setRow (w.heap.size + 1 + 1 + 1) #[x3]) vc va x1 x2 x3 := by
  obtain ⟨f, ⟨a0, l0⟩, ⟨a1, l1⟩, ⟨a2, l2⟩, ⟨a3, l3⟩⟩ := h
  have b2 : rowOf (W.setRow (w.heap.size + 1) #[x1]) (w.heap.size + 1 + 1) = #[r2] := by rw [rowOf_setRow_ne _ _ _ _ (by omega)]; exact a2
  have b3 : rowOf ((W.setRow (w.heap.size + 1) #[x1]).setRow (w.heap.size + 1 + 1) #[x2]) (w.heap.size + 1 + 1 + 1) = #[r3] := by rw [rowOf_setRow_ne _ _ _ _ (by omega), rowOf_setRow_ne _ _ _ _ (by omega)]; exact a3
  refine ⟨((keeps_one a1).trans (keeps_one b2)).trans (keeps_one b3), f.trans ((((Fr.refl (fun k => w.heap.size ≤ k) W).setRow _ _ (fun _ => by omega)).setRow _ _ (fun _ => by omega)).setRow _ _ (fun _ => by omega)) (fun k hk e => by omega), ⟨?_, ?_⟩, ⟨?_, ?_⟩, ⟨?_, ?_⟩, ⟨?_, ?_⟩⟩
  · rw [rowOf_setRow_ne _ _ _ _ (by omega), rowOf_setRow_ne _ _ _ _ (by omega), rowOf_setRow_ne _ _ _ _ (by omega)]; exact a0
  · rw [live_setRow, live_setRow, live_setRow]; exact l0
  · rw [rowOf_setRow_ne _ _ _ _ (by omega), rowOf_setRow_ne _ _ _ _ (by omega)]; exact rowOf_setRow_same _ _ _ l1
  · rw [live_setRow, live_setRow, live_setRow]; exact l1
  · rw [rowOf_setRow_ne _ _ _ _ (by omega)]; exact rowOf_setRow_same _ _ _ (by rw [live_setRow]; exact l2)
  · rw [live_setRow, live_setRow, live_setRow]; exact l2
  · exact rowOf_setRow_same _ _ _ (by rw [live_setRow, live_setRow]; exact l3)
  · rw [live_setRow, live_setRow, live_setRow]; exact l3

/-- The slice of an order. -/
def isSl (n : Nat) (v : Value) : Prop := ∃ a c, v = .slice a n c

set_option maxRecDepth 20000 in
set_option maxHeartbeats 4000000 in
theorem order8 (H77 : Sorts77) (H79 : Sorted79) (H82 : Search82) (H83 : Sorts83) (H84 : Compact84) (hA : OwnRows w va 4 (A.map actRow) ba) (hC : OwnRows w vc 1 (natRows C) bc) (hh : HistOk A C) (hB : ActsB A C)
    (hsrc : ∀ (ws : List Nat) (N : List (List Nat)) (I : List Int), ws.Perm C → WebOk (SDep A C) ws N I → ∀ U : List Nat, U ≠ [] → (∀ u ∈ U, u < N.length) → ∃ t ∈ U, ∀ s ∈ U, ¬ t ∈ N[s]?.getD []) :
    Calls Tryz.prog 8 #[.agg #[vc, va]] w fun e w' => ∃ a c, e = .returned (.tuple #[.slice a C.length c, .bool true, .int .i64 0]) ∧ Fr (fun _ => False) w w' := by
  obtain ⟨aa, ca, rfl⟩ := hA.len
  obtain ⟨ac, cc, rfl⟩ := hC.len
  rw [List.length_map] at hA ⊢
  rw [natRows_length] at hC ⊢
  have hla := hB.la
  have hlc := hB.lc
  have HA := Lib.hid hA
  have HC := Lib.hid hC
  have HH := Lib.hid hh
  have HB := Lib.hid hB
  have HSRC := Lib.hid hsrc
  clear hA hC hh hB hsrc
  refine (callsIn_wide (n := 2)).1 ?_
  refine callsIn_of_wp_marks Tryz.func8 rfl trivial ?_ rfl
  simp only [Tryz.ntmps8, List.size_toArray, List.length_cons, List.length_nil, Nat.reduceAdd, Nat.reduceSub, Array.replicate_succ, Array.replicate_zero, List.push_toArray, List.append_toArray, List.nil_append, List.cons_append]
  have h0 := OS.made w (.slice ac C.length cc) (.slice aa A.length ca)
  have HCK := fun W (hf : Fr (fun _ => False) w W) => check23 H77 (HA.out.keep hf (fun _ _ e => e)) (HC.out.keep hf (fun _ _ e => e)) HH.out HB.out
  have HOR := fun W (hf : Fr (fun _ => False) w W) => orders24 H77 H79 H82 H83 H84 (HA.out.keep hf (fun _ _ e => e)) (HC.out.keep hf (fun _ _ e => e)) HH.out HB.out
  have HCK := Lib.hid HCK
  have HOR := Lib.hid HOR
  rw [wpIn_wide]
  go_upto_region 1 with fail
  obtain ⟨W, hW⟩ : ∃ W, W = ((((w.alloc (.cells #[.slice ac C.length cc, .slice aa A.length ca] 42)).alloc (.cells #[.slice none 0 0] 32)).alloc (.cells #[.bool false] 4)).alloc (.cells #[.int .i64 0] 26)) := ⟨_, rfl⟩
  rw [← hW] at h0 ⊢
  clear hW
  have HC1 := Lib.hid (HCK.out W h0.fr)
  have H0 := Lib.hid h0
  have r0 := h0.h0.1
  have l0 := h0.h0.2
  clear h0
  go_wp2_with (first
    | (go_at_call 23; refine HC1.out.mono ?_; rintro e w1 ⟨rfl, hf1⟩; have H1 := Lib.hid (H0.out.frk hf1 (fun _ e => e.elim)); have HO1 := Lib.hid (HOR.out w1 H1.out.fr); have r1 := H1.out.h0.1; have l1 := H1.out.h0.2; clear hf1)
    | (go_at_call 24; refine HO1.out.mono ?_; rintro e w2 ⟨bw, p, gn, gi, tv, ws, vs, N, I, b, rfl, hX⟩; have H2 := Lib.hid (H1.out.frk hX.out.2.2.2.2 (fun _ e => e.elim))))
  rw [← wpIn_wide (n := 2)]
  have hsz : w.heap.size + 4 ≤ w2.heap.size := by have := live_lt H2.out.h3.2; omega
  have HSZ := Lib.hid hsz
  refine rangeFunc_once (gf := 50) (lb := #[.pointer (some ⟨bw, 0, none⟩)]) rfl (enters_of Tryz.func50 (by kernel_rfl) rfl) rfl (isSl C.length) (fun W => ∃ a c, OS w W (.slice ac C.length cc) (.slice aa A.length ca) (.slice a C.length c) (.bool true) (.int .i64 0))
    (fun W W' ⟨a, c, h⟩ hf => ⟨a, c, h.frk hf (fun k hk => by omega)⟩)
    (fun l W1 Post hf hY => ?_)
    (fun x => { tmps := #[.agg #[.slice ac C.length cc, .slice aa A.length ca], .pointer (some ⟨w.heap.size, 0, none⟩), .pointer (some ⟨w.heap.size + 1, 0, none⟩), .pointer (some ⟨w.heap.size + 1 + 1, 0, none⟩), .pointer (some ⟨w.heap.size + 1 + 1 + 1, 0, none⟩), .int .i64 0, x, .agg #[.slice ac C.length cc, .slice aa A.length ca], .int .i64 0, .int .i64 0, .bool false, undef, .agg #[.slice ac C.length cc, .slice aa A.length ca], .func (.func 50) #[] #[.pointer (some ⟨bw, 0, none⟩)], x, undef], defers := [] }) ?assign ?body ?stop
  · obtain ⟨x1, x2, x3, x4, x5⟩ := hX.out
    exact it50 (x2.fr0 hf) x3 (HSRC.out ws N I x4 x3) (by rw [x4.length_eq]; exact hlc) ((hf.row (rowOf_some_lt x1) (fun e => e)).trans x1) (fun W v xs bs hfW ho hl => hY W v hfW (by
      obtain ⟨a, c, e⟩ := ho.len
      exact ⟨a, c, by rw [e, natRows_length, hl, x4.length_eq]⟩))
  case assign =>
    intro l x W K hK
    gi_wp2
    exact hK
  case body =>
    rintro l W x ⟨a, c, rfl⟩ hfW
    have hO := H2.out.frk hfW (fun k hk => by omega)
    have HO := Lib.hid hO
    have q1 := hO.h1
    have q2 := hO.h2
    have q3 := hO.h3
    obtain ⟨q1, m1⟩ := q1
    obtain ⟨q2, m2⟩ := q2
    obtain ⟨q3, m3⟩ := q3
    clear hO hfW
    gi_wp2
    exact ⟨HO.out.stored.1, _, _, HO.out.stored.2⟩
  case stop =>
    rintro D W hD ⟨a, c, h⟩ hK
    gi_wp2
    have h' := h.frk (grown_fr (grownBy_putObj' W D (.deferred none))) (fun k hk => by omega)
    obtain ⟨g1, -⟩ := h'.h1
    obtain ⟨g2, -⟩ := h'.h2
    obtain ⟨g3, -⟩ := h'.h3
    refine ⟨by simp, .inl ⟨_, _, rfl, run_takeDeferred hK, ?_⟩⟩
    exact ⟨_, by simp [results, Tryz.results8, go_sem, g1, g2, g3]; try rfl, a, c, rfl, h'.fr⟩
end
end Go.Proofs.YteldfmgjbgedaaaGreat
