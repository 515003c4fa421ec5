/-
  slices.Backward over the pending writes: the iterator's contract.
-/
import Derived.RangeFuncNested
import Derived.RangeFuncBound
import Derived.RangeFuncCalls
import Derived.RangeFuncLeaves
import Derived.Shelf.Abstract
import Derived.WalkKit
import Derived.OwnWalkIn
import Derived.TacticsInMore
import Derived.LoopNIn
import Derived.LoopIn
import Derived.Test.YtflnlpbcmcfblaaPending
namespace Go.Proofs.Ytflnlpbcmcfblaa
open Go.RowKit Go.Shelf
attribute [local go_sem] Oper.semAt_some

theorem Below.row {B : Nat} {w w' : World} (h : Below B w w') {g : Nat} (hg : g < B) : rowOf w' g = rowOf w g := rowOf_congr (h.block g hg)
theorem Below.liv {B : Nat} {w w' : World} (h : Below B w w') {g : Nat} (hg : g < B) : live w' g = live w g := live_congr (h.block g hg)

/-- What one round is handed. -/
structure BRow where
  i : Int
  n : Nat
  b : List UInt8
  hb : b.length = 64
def BRow.encs (x : BRow) : Array Value := #[.int .i64 x.i, .agg (wrC (x.n : Int) (bvA x.b))]
def BRow.key (x : BRow) : Nat × List UInt8 := (x.n, x.b)

theorem drop_key {l : List (Nat × List UInt8)} {k : Nat} (h : k < l.length) {pre : List BRow} {x : BRow} (hp : pre.map BRow.key = (l.drop (k + 1)).reverse) (hx : x.key = l[k]) :
    (pre ++ [x]).map BRow.key = (l.drop k).reverse := by
  have e : List.drop k l = l[k] :: List.drop (k + 1) l := List.drop_eq_getElem_cons h
  rw [List.map_append, hp, e, List.reverse_cons, List.map_cons, List.map_nil, hx]

set_option maxRecDepth 100000 in
set_option maxHeartbeats 2000000 in
theorem back_nil (n l Bs : Nat) (J Jx : List BRow → World → Prop) (W : World) (hr : rowOf W Bs = #[.slice none 0 0]) (_hl : live W Bs = true) (h0 : J [] W) :
    CallsIn Fence.wide n Try.prog 92 #[.func (.yield l) #[] #[], .pointer (some ⟨Bs, 0, none⟩)] W fun e W' => (∃ v, e = .returned v) ∧
      ((∃ xs, xs.map BRow.key = [] ∧ J xs W') ∨ (∃ pre, (∃ k, pre.map BRow.key = (([] : List (Nat × List UInt8)).drop k).reverse) ∧ Jx pre W')) := by
  refine callsIn_of_wp Try.func92 rfl trivial ?_ rfl
  simp only [Try.ntmps92, List.size_toArray, List.length_cons, List.length_nil, Nat.reduceAdd, Nat.reduceSub, Array.replicate_succ, Array.replicate_zero, List.push_toArray, List.append_toArray, List.nil_append, List.cons_append]
  gi_wp2
  gi_loopw [3] (fun i wr => i = .int .i64 (-1) ∧ J [] wr) (fun _ _ => 0)
  case atStart => exact ⟨rfl, h0⟩
  case round =>
    obtain ⟨rfl, hJs⟩ := hrel
    gi_wp2
    go_end0
    exact ⟨⟨_, rfl⟩, .inl ⟨[], rfl, hJs⟩⟩

set_option maxRecDepth 100000 in
set_option maxHeartbeats 2000000 in
theorem back_some (n l Bs n₀ gp cap : Nat) (hn : 1 ≤ n) (pl : List (Nat × List UInt8)) (J Jx : List BRow → World → Prop)
    (hY : ∀ pre (x : BRow) W, J pre W → pre.length < pl.length → YieldAt Fence.wide (n - 1) Try.prog l x.encs W fun e W' =>
      (e = .returned (.bool true) ∧ J (pre ++ [x]) W' ∧ Below n₀ W W') ∨ (e = .returned (.bool false) ∧ Jx (pre ++ [x]) W'))
    (W : World) (hr : rowOf W Bs = #[.slice (some ⟨gp, 0, none⟩) pl.length cap]) (hl : live W Bs = true) (hBs : Bs < n₀) (hgp : gp < n₀) (hmx : pl.length ≤ 9223372036854775807)
    (hlg : live W gp = true) (hsz : pl.length * 65 ≤ (rowOf W gp).size) (hct : ∀ i (h : i < pl.length), cut (rowOf W gp) (i * 65) 65 = wrC pl[i].1 (bvA pl[i].2)) (h64 : ∀ q ∈ pl, q.2.length = 64) (h0 : J [] W) :
    CallsIn Fence.wide n Try.prog 92 #[.func (.yield l) #[] #[], .pointer (some ⟨Bs, 0, none⟩)] W fun e W' => (∃ v, e = .returned v) ∧
      ((∃ xs, xs.map BRow.key = pl.reverse ∧ J xs W') ∨ (∃ pre, (∃ k, pre.map BRow.key = (pl.drop k).reverse) ∧ Jx pre W')) := by
  refine callsIn_of_wp Try.func92 rfl trivial ?_ rfl
  simp only [Try.ntmps92, List.size_toArray, List.length_cons, List.length_nil, Nat.reduceAdd, Nat.reduceSub, Array.replicate_succ, Array.replicate_zero, List.push_toArray, List.append_toArray, List.nil_append, List.cons_append]
  gi_wp2
  gi_loopw [3] (fun i wr => ∃ (k : Nat) (pre : List BRow), k ≤ pl.length ∧ i = .int .i64 ((k : Int) - 1) ∧ pre.map BRow.key = (pl.drop k).reverse ∧ J pre wr ∧ Below n₀ W wr)
    (fun i _ => (intOf i + 1).toNat)
  case atStart => exact ⟨pl.length, [], Nat.le_refl _, by go_num, by simp, h0, Below.refl _ _⟩
  case round =>
    obtain ⟨k, pre, hk, rfl, hp, hJs, hB⟩ := hrel
    have HP := Lib.hid hp
    have HB := Lib.hid hB
    have r2 := (Below.row hB hBs).trans hr
    have l2 := (Below.liv hB hBs).trans hl
    have l3 := (Below.liv hB hgp).trans hlg
    have r3 := Below.row hB hgp
    cases k with
    | zero =>
      clear hr hp hB hct
      gi_wp2
      go_end0
      exact ⟨⟨_, rfl⟩, .inl ⟨pre, by simpa using HP.out, hJs⟩⟩
    | succ k =>
      have hlt : k < pl.length := hk
      have hsz2 : k * 65 + 65 ≤ (rowOf wr gp).size := by rw [r3]; have := Nat.mul_le_mul_right 65 hlt; omega
      have ct0 : cut (rowOf wr gp) (k * 65) 65 = _ := (congrArg (fun c => cut c (k * 65) 65) r3).trans (hct k hlt)
      have hb := h64 _ (List.getElem_mem hlt)
      have hk1 : ((k + 1 : Nat) : Int) - 1 = k := by omega
      rw [hk1]
      obtain ⟨fn, tmps, assign, body, hy, hR⟩ := hY pre ⟨k, pl[k].1, pl[k].2, hb⟩ wr hJs (by have := congrArg List.length hp; simp at this; omega)
      have HL := Lib.hid (show (⟨k, pl[k].1, pl[k].2, hb⟩ : BRow).key = pl[k] from rfl)
      dsimp only [BRow.encs] at hy
      have hki : (k : Int) < (pl.length : Int) := by omega
      clear hr hp hB hct hsz h64 r3
      gi_wp2
      refine hR.mono ?_
      rintro e W3 (⟨rfl, hJ3, hk3⟩ | ⟨rfl, hJx3⟩)
      · have HK3 := Lib.hid hk3
        have HJ3 := Lib.hid hJ3
        clear hk3 hJ3
        gi_wp2
        go_roundw
        case rel => exact ⟨k, _, by omega, rfl, drop_key hlt HP.out HL.out, HJ3.out, HB.out.trans HK3.out⟩
        case measure => simp [intOf]
      · gi_wp2
        refine bodyPost_ret (results_none rfl _ _ _) rfl ?_
        exact ⟨⟨_, rfl⟩, .inr ⟨_, ⟨k, drop_key hlt HP.out HL.out⟩, hJx3⟩⟩

/-- The contract of slices.Backward's closure. -/
theorem back_stops (n Bs n₀ : Nat) (hn : 1 ≤ n) (v : Value) (pl : List (Nat × List UInt8)) (w : World) (hr : rowOf w Bs = #[v]) (hl : live w Bs = true) (hBs : Bs < n₀) (hn₀ : n₀ ≤ w.heap.size) (hp : PendSl w v pl)
    (hv : ∀ k, v.ownBlock = some k → k < n₀) (h64 : ∀ q ∈ pl, q.2.length = 64) :
    SeqStopsK Fence.wide n Try.prog 92 #[.pointer (some ⟨Bs, 0, none⟩)] BRow.encs (Below n₀) (fun xs => xs.map BRow.key = pl.reverse) (fun pre => ∃ k, pre.map BRow.key = (pl.drop k).reverse) pl.length w := fun l J Jx W hW _ _ hY h0 => by
  have hW2 := hW.mono hn₀
  have r2 := (Below.row hW2 hBs).trans hr
  have l2 := (Below.liv hW2 hBs).trans hl
  rcases hp with ⟨rfl, rfl⟩ | ⟨g, cap, rfl, h1, ⟨h2, h2p⟩, h3, h4, h5⟩
  · exact back_nil n l Bs J Jx W r2 l2 h0
  · have hg : g < n₀ := hv g rfl
    refine back_some n l Bs n₀ g cap hn pl J Jx hY W r2 l2 hBs hg (by simp only [maxLen] at h3; omega) ((Below.liv hW2 hg).trans h1) ?_ ?_ h64 h0
    · rw [Below.row hW2 hg, h4]; exact Nat.mul_le_mul_right 65 h2
    · intro i hi; rw [Below.row hW2 hg]; exact h5 i hi

set_option maxHeartbeats 1000000 in
theorem backward_any (w : World) (a : Option Addr) (len cap : Nat) : Calls Try.prog 66 #[.slice a len cap] w fun e w' => e = .returned (.func (.func 92) #[] #[.pointer (some ⟨w.heap.size, 0, none⟩)]) ∧ w' = w.alloc (.cells #[.slice a len cap] 67) := by
  go_enter Try.func66, Try.ntmps66
  go_wp2
  go_ret
  exact ⟨rfl, rfl⟩

end Go.Proofs.Ytflnlpbcmcfblaa
