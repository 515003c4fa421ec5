/-
  Package ssi: what reads a transaction alone: both, concurrent.
  Packages ssi, lock, siread: the structs, and whether they were made.
  Package ssi: a transaction that is under way, by its number.
  Packages lock, siread: Len; the laws of the maps' keys.
  Packages lock, siread: New.
-/
import Derived.Test.YteldfmgjbgedaaaGreatChecked
import Derived.Test.YteldfmgjbgedaaaGreatBa
import Derived.LaidEqlPtr
import Derived.Lib.Builder
import Derived.Maps.OwnSet
import Derived.DeepKeys4
namespace Go.Proofs.YteldfmgjbgedaaaGreat
open Go.RowKit

/-- A transaction's struct. -/
def txRow (n snap : Int) (act : Bool) (b e : Int) (fi fo : Bool) (wr : Value) : Array Value := #[.int .i64 n, .int .i64 snap, .bool act, .int .i64 b, .int .i64 e, .bool fi, .bool fo, wr]

set_option maxRecDepth 20000 in
set_option maxHeartbeats 1000000 in
theorem both_any (w : World) (fi fo i o : Bool) :
    Calls Tryz.prog 65 #[.agg #[.bool fi, .bool fo], .bool i, .bool o] w fun e w' => e = .returned (.bool ((fi || i) && (fo || o))) ∧ Fr (fun _ => False) w w' := by
  cases fi <;> cases i <;> cases fo <;> cases o <;>
  · go_enter Tryz.func65, Tryz.ntmps65
    go_wp2
    go_ret
    exact ⟨rfl, (Fr.refl _ w).alloc _⟩

theorem size97 : (Tryz.prog.info? 97).map (·.size) = some 8 := by kernel_rfl
theorem info97 : ∃ j, Tryz.prog.info? 97 = some j ∧ j.size ≠ 0 := by
  cases h : Tryz.prog.info? 97 with
  | none => have := size97; rw [h] at this; cases this
  | some j =>
    have hs : j.size = 8 := by have := size97; rw [h] at this; exact Option.some.inj this
    exact ⟨j, rfl, by omega⟩
theorem run_neq92_same (w : World) (b : Nat) : (binOp .neq 92 (.pointer (some ⟨b, 0, none⟩)) (.pointer (some ⟨b, 0, none⟩))).run Tryz.prog w = .ok (.bool false) w := by
  obtain ⟨j, hj, _⟩ := info97
  exact Lib.run_neq_ptr_same w _ Tryz.underlying92 hj
theorem run_neq92_other (w : World) {a b : Nat} (hne : a ≠ b) (ha : live w a = true) (hb : live w b = true) : (binOp .neq 92 (.pointer (some ⟨a, 0, none⟩)) (.pointer (some ⟨b, 0, none⟩))).run Tryz.prog w = .ok (.bool true) w := by
  obtain ⟨j, hj, hz⟩ := info97
  obtain ⟨ta, ha⟩ := live_obj ha
  obtain ⟨tb, hb⟩ := live_obj hb
  have h : ∀ d : Nat, (Op.equalIn (d + 1) 92 (.pointer (some ⟨a, 0, none⟩)) (.pointer (some ⟨b, 0, none⟩))).run Tryz.prog w = .ok false w := fun d => by
    simp [Op.equalIn, run_underlying Tryz.underlying92, sizeOf, typeInfo, hj, hz, run_sameAddr_other w (a := ⟨a, 0, none⟩) (b := ⟨b, 0, none⟩) (fun e => hne (by injection e)) ha hb]
  simp only [binOp]
  simp [Op.equal, Op.maxDepth, h 9999]

set_option maxRecDepth 20000 in
set_option maxHeartbeats 1000000 in
theorem concurrent_any (w : World) (bt bo : Nat) {n1 s1 b1 e1 n2 s2 b2 e2 : Int} {a1 i1 o1 a2 i2 o2 : Bool} {v1 v2 : Value} (h1 : rowOf w bt = txRow n1 s1 a1 b1 e1 i1 o1 v1) (h2 : rowOf w bo = txRow n2 s2 a2 b2 e2 i2 o2 v2) (l1 : live w bt = true) (l2 : live w bo = true) :
    Calls Tryz.prog 59 #[.pointer (some ⟨bt, 0, none⟩), .pointer (some ⟨bo, 0, none⟩)] w fun e w' => e = .returned (.bool (!decide (bo = bt) && (a2 || decide (b1 < e2)))) ∧ Fr (fun _ => False) w w' := by
  unfold txRow at h1 h2
  by_cases hb : bo = bt
  · subst hb
    have hq := run_neq92_same w.drew bo
    go_enter Tryz.func59, Tryz.ntmps59
    go_wp2
    go_region
    all_goals
      go_wp2
      go_ret
      exact ⟨by simp, (Fr.refl _ w).drew⟩
  · have hq := run_neq92_other w.drew hb l2 l1
    clear l1 l2
    cases a2 with
    | true =>
      go_enter Tryz.func59, Tryz.ntmps59
      go_wp2
      go_region
      all_goals
        go_wp2
        go_ret
        exact ⟨by simp [hb], (Fr.refl _ w).drew⟩
    | false =>
      by_cases hlt : b1 < e2
      · have hd : decide (b1 < e2) = true := decide_eq_true hlt
        go_enter Tryz.func59, Tryz.ntmps59
        go_wp2
        go_region
        all_goals
          go_wp2
          go_ret
          exact ⟨by simp [hb, hlt], (Fr.refl _ w).drew⟩
      · have hd : decide (b1 < e2) = false := decide_eq_false hlt
        go_enter Tryz.func59, Tryz.ntmps59
        go_wp2
        go_region
        all_goals
          go_wp2
          go_ret
          exact ⟨by simp [hb, hlt], (Fr.refl _ w).drew⟩

end Go.Proofs.YteldfmgjbgedaaaGreat

namespace Go.Proofs.YteldfmgjbgedaaaGreat
open Go.RowKit

@[go_sem] theorem run_eqlMap55 (w : World) (b : Nat) : (binOp .eql 55 (.map (some b)) (.map none)).run Tryz.prog w = .ok (.bool false) w := by kernel_rfl
@[go_sem] theorem run_eqlMap86 (w : World) (b : Nat) : (binOp .eql 86 (.map (some b)) (.map none)).run Tryz.prog w = .ok (.bool false) w := by kernel_rfl
@[go_sem] theorem run_eqlMap89 (w : World) (b : Nat) : (binOp .eql 89 (.map (some b)) (.map none)).run Tryz.prog w = .ok (.bool false) w := by kernel_rfl

/-- The structs of the three managers. -/
def mgRow (ca ck cr cl now last clock : Int) (bm bl br : Nat) : Array Value := #[.int .i64 ca, .int .i64 ck, .int .i64 cr, .int .i64 cl, .int .i64 now, .int .i64 last, .int .i64 clock, .map (some bm), .pointer (some ⟨bl, 0, none⟩), .pointer (some ⟨br, 0, none⟩)]
def lkRow (most : Int) (bk : Nat) : Array Value := #[.int .i64 most, .map (some bk)]
def rdRow (most : Int) (bn : Nat) (many : Int) : Array Value := #[.int .i64 most, .map (some bn), .int .i64 many]

set_option maxRecDepth 20000 in
set_option maxHeartbeats 1000000 in
theorem none25_any (w : World) (m : Nat) {ca ck cr cl now last clock : Int} {bm bl br : Nat} (h : rowOf w m = mgRow ca ck cr cl now last clock bm bl br) :
    Calls Tryz.prog 25 #[.pointer (some ⟨m, 0, none⟩)] w fun e w' => e = .returned (.bool false) ∧ w = w' := by
  unfold mgRow at h
  go_enter Tryz.func25, Tryz.ntmps25
  go_wp2
  go_ret
  exact ⟨rfl, rfl⟩

set_option maxRecDepth 20000 in
set_option maxHeartbeats 1000000 in
theorem none55_any (w : World) (m : Nat) {most : Int} {bk : Nat} (h : rowOf w m = lkRow most bk) :
    Calls Tryz.prog 55 #[.pointer (some ⟨m, 0, none⟩)] w fun e w' => e = .returned (.bool false) ∧ w = w' := by
  unfold lkRow at h
  go_enter Tryz.func55, Tryz.ntmps55
  go_wp2
  go_ret
  exact ⟨rfl, rfl⟩

set_option maxRecDepth 20000 in
set_option maxHeartbeats 1000000 in
theorem none54_any (w : World) (m : Nat) {most many : Int} {bn : Nat} (h : rowOf w m = rdRow most bn many) :
    Calls Tryz.prog 54 #[.pointer (some ⟨m, 0, none⟩)] w fun e w' => e = .returned (.bool false) ∧ w = w' := by
  unfold rdRow at h
  go_enter Tryz.func54, Tryz.ntmps54
  go_wp2
  go_ret
  exact ⟨rfl, rfl⟩

end Go.Proofs.YteldfmgjbgedaaaGreat

namespace Go.Proofs.YteldfmgjbgedaaaGreat
open Go.RowKit Go.Maps

/-- A pointer to a transaction's block, as an integer. -/
def ptrElem {H : Type} (v : Value) : Option (DataW H × List MemPlace) :=
  match v with
  | .pointer none => some (.nil, [])
  | .pointer (some ⟨b, 0, none⟩) => some (.lit (.int .i64 b), [])
  | _ => none

theorem ptrElem_inv {H : Type} {v : Value} {b : Nat} {ps : List MemPlace} (h : ptrElem (H := H) v = some (.lit (.int .i64 b), ps)) : v = .pointer (some ⟨b, 0, none⟩) := by
  unfold ptrElem at h
  split at h
  · simp at h
  · rename_i b'; simp at h; obtain ⟨h, -⟩ := h; have : b' = b := by omega
    rw [this]
  · cases h
theorem ptrElem_nil {H : Type} {v : Value} {ps : List MemPlace} (h : ptrElem (H := H) v = some (.nil, ps)) : v = .pointer none := by
  unfold ptrElem at h
  split at h
  · rfl
  · simp at h
  · cases h

theorem law2 : Keyed Tryz.prog 2 := int_keyed Tryz.underlying2
theorem zero92 (w : World) : (zeroValue 92).run Tryz.prog w = .ok (.pointer none) w := by kernel_rfl

section
variable {H : Type} (w : World) (m : Nat) {ca ck cr cl now last clock : Int} {bm bl br n : Nat} {D : DataW H}

set_option maxRecDepth 20000 in
set_option maxHeartbeats 1000000 in
/-- No transaction of that number. -/
theorem active_none (h : rowOf w m = mgRow ca ck cr cl now last clock bm bl br) (hown : w.ownsMap Tryz.prog 2 ptrElem bm n D) (t : Int) (hw : (Lit.int .i64 t).wf = true) (hn : Maps.has D (.int .i64 t) = false) :
    Calls Tryz.prog 29 #[.pointer (some ⟨m, 0, none⟩), .int .i64 t] w fun e w' => e = .returned (.tuple #[.pointer none, .int .i64 101]) ∧ w = w' := by
  have HN := Lib.hid (none25_any w m h)
  unfold mgRow at h
  go_enter Tryz.func29, Tryz.ntmps29
  go_wp2_with fail
  refine HN.out.mono ?_
  rintro e w' ⟨rfl, rfl⟩
  go_wp2_with (at_lookup; refine wpList_lookup_own_ok _ rfl (.tmp 14) (.tmp 15) 55 rfl 2 92 law2 Tryz.underlying55 ptrElem (zero92 _) .nil [] rfl bm n D rfl hown _ _ rfl (keyOf_int_mk Tryz.underlying2 hw) ?_; intro v ps hv; rw [hn])
  go_ret2
  exact ⟨rfl, rfl⟩

set_option maxRecDepth 20000 in
set_option maxHeartbeats 1000000 in
/-- A transaction of that number, whether it is under way (a). -/
theorem active_there (h : rowOf w m = mgRow ca ck cr cl now last clock bm bl br) (hown : w.ownsMap Tryz.prog 2 ptrElem bm n D) (t : Int) (hw : (Lit.int .i64 t).wf = true) (hn : Maps.has D (.int .i64 t) = true) {b : Nat} (hb : D.atKey (.int .i64 t) .nil = .lit (.int .i64 b))
    {k sn be en : Int} {a fi fo : Bool} {wr : Value} (hr : rowOf w b = txRow k sn a be en fi fo wr) :
    Calls Tryz.prog 29 #[.pointer (some ⟨m, 0, none⟩), .int .i64 t] w fun e w' => e = .returned (if a then .tuple #[.pointer (some ⟨b, 0, none⟩), .int .i64 0] else .tuple #[.pointer none, .int .i64 101]) ∧ w = w' := by
  have HN := Lib.hid (none25_any w m h)
  unfold mgRow at h
  unfold txRow at hr
  cases a <;>
  · go_enter Tryz.func29, Tryz.ntmps29
    go_wp2_with fail
    refine HN.out.mono ?_
    rintro e w' ⟨rfl, rfl⟩
    go_wp2_with (at_lookup; refine wpList_lookup_own_ok _ rfl (.tmp 14) (.tmp 15) 55 rfl 2 92 law2 Tryz.underlying55 ptrElem (zero92 _) .nil [] rfl bm n D rfl hown _ _ rfl (keyOf_int_mk Tryz.underlying2 hw) ?_; intro v ps hv; rw [hb] at hv; obtain rfl := ptrElem_inv hv; rw [hn])
    go_ret2
    exact ⟨rfl, rfl⟩
end

end Go.Proofs.YteldfmgjbgedaaaGreat

namespace Go.Proofs.YteldfmgjbgedaaaGreat
open Go.RowKit Go.Maps

theorem laidOut : laidOutB Tryz.prog = true := by kernel_rfl
theorem law66 : Keyed Tryz.prog 66 := Keyed.of_law (deep_law_laid laidOut (m := 3) (by omega) (of_decide_eq_true (by kernel_rfl)) (by kernel_rfl) (by kernel_rfl))
theorem law138 : Keyed Tryz.prog 138 := Keyed.of_law (deep_law_laid laidOut (m := 3) (by omega) (of_decide_eq_true (by kernel_rfl)) (by kernel_rfl) (by kernel_rfl))

set_option maxRecDepth 20000 in
set_option maxHeartbeats 1000000 in
theorem len27_any (w : World) (m : Nat) {most many : Int} {bn : Nat} (h : rowOf w m = rdRow most bn many) :
    Calls Tryz.prog 27 #[.pointer (some ⟨m, 0, none⟩)] w fun e w' => e = .returned (.int .i64 many) ∧ w = w' := by
  have HN := Lib.hid (none54_any w m h)
  unfold rdRow at h
  go_enter Tryz.func27, Tryz.ntmps27
  go_wp2_with fail
  refine HN.out.mono ?_
  rintro e w' ⟨rfl, rfl⟩
  go_wp2
  go_ret
  exact ⟨rfl, rfl⟩

set_option maxRecDepth 20000 in
set_option maxHeartbeats 1000000 in
theorem len28_any {H : Type} {R : Value → Option (DataW H × List MemPlace)} {n : Nat} {D : DataW H} (w : World) (m : Nat) {most : Int} {bk : Nat} (h : rowOf w m = lkRow most bk) (hown : w.ownsMap Tryz.prog 66 R bk n D) :
    Calls Tryz.prog 28 #[.pointer (some ⟨m, 0, none⟩)] w fun e w' => e = .returned (.int .i64 (Maps.size D)) ∧ w = w' := by
  have HN := Lib.hid (none55_any w m h)
  unfold lkRow at h
  go_enter Tryz.func28, Tryz.ntmps28
  go_wp2_with fail
  refine HN.out.mono ?_
  rintro e w' ⟨rfl, rfl⟩
  go_wp2_with (at_len; refine wpList_len_own _ rfl (.tmp 8) 86 rfl 66 2 Tryz.underlying86 R bk n D rfl hown ?_)
  go_ret
  exact ⟨rfl, rfl⟩

end Go.Proofs.YteldfmgjbgedaaaGreat

namespace Go.Proofs.YteldfmgjbgedaaaGreat
open Go.RowKit Go.Maps

set_option maxRecDepth 20000 in
set_option maxHeartbeats 1000000 in
theorem new10_bad (w : World) (n : Int) (h : n < 1 ∨ 4096 < n) : Calls Tryz.prog 10 #[.int .i64 n] w fun e w' => e = .returned (.tuple #[.pointer none, .int .i64 1]) ∧ w = w' := by
  by_cases h1 : n < 1
  · clear h
    go_enter Tryz.func10, Tryz.ntmps10
    go_wp2
    go_ret2
    exact ⟨rfl, rfl⟩
  · have h2 : 4096 < n := by omega
    clear h
    go_enter Tryz.func10, Tryz.ntmps10
    go_wp2
    go_ret2
    exact ⟨rfl, rfl⟩
set_option maxRecDepth 20000 in
set_option maxHeartbeats 1000000 in
theorem new10_ok (w : World) (n : Int) (h1 : ¬ n < 1) (h2 : ¬ 4096 < n) : Calls Tryz.prog 10 #[.int .i64 n] w fun e w' => e = .returned (.tuple #[.pointer (some ⟨w.heap.size + 1, 0, none⟩), .int .i64 0]) ∧ rowOf w' (w.heap.size + 1) = lkRow n w.heap.size ∧ live w' (w.heap.size + 1) = true ∧ w'.heap[w.heap.size]? = some (.map #[] 0) ∧ Fr (fun _ => False) w w' := by
  have hmm := @run_makeMap Tryz.prog
  go_enter Tryz.func10, Tryz.ntmps10
  go_wp2
  go_ret2
  refine ⟨rfl, rowOf_alloc_at _ _ _ _ _ (by simp), live_alloc_at _ _ _ _ (by simp), ?_, ((Fr.refl _ w).alloc _).alloc _⟩
  show ((w.alloc (.map #[] 0)).heap.push _)[w.heap.size]? = _
  rw [Array.getElem?_push, if_neg (by simp)]
  exact (MapKept.heap_alloc w _).1

set_option maxRecDepth 20000 in
set_option maxHeartbeats 1000000 in
theorem new11_bad (w : World) (n : Int) (h : n < 1 ∨ 65536 < n) : Calls Tryz.prog 11 #[.int .i64 n] w fun e w' => e = .returned (.tuple #[.pointer none, .int .i64 1]) ∧ w = w' := by
  by_cases h1 : n < 1
  · clear h
    go_enter Tryz.func11, Tryz.ntmps11
    go_wp2
    go_ret2
    exact ⟨rfl, rfl⟩
  · have h2 : 65536 < n := by omega
    clear h
    go_enter Tryz.func11, Tryz.ntmps11
    go_wp2
    go_ret2
    exact ⟨rfl, rfl⟩
set_option maxRecDepth 20000 in
set_option maxHeartbeats 1000000 in
theorem new11_ok (w : World) (n : Int) (h1 : ¬ n < 1) (h2 : ¬ 65536 < n) : Calls Tryz.prog 11 #[.int .i64 n] w fun e w' => e = .returned (.tuple #[.pointer (some ⟨w.heap.size + 1, 0, none⟩), .int .i64 0]) ∧ rowOf w' (w.heap.size + 1) = rdRow n w.heap.size 0 ∧ live w' (w.heap.size + 1) = true ∧ w'.heap[w.heap.size]? = some (.map #[] 0) ∧ Fr (fun _ => False) w w' := by
  have hmm := @run_makeMap Tryz.prog
  go_enter Tryz.func11, Tryz.ntmps11
  go_wp2
  go_ret2
  refine ⟨rfl, rowOf_alloc_at _ _ _ _ _ (by simp), live_alloc_at _ _ _ _ (by simp), ?_, ((Fr.refl _ w).alloc _).alloc _⟩
  show ((w.alloc (.map #[] 0)).heap.push _)[w.heap.size]? = _
  rw [Array.getElem?_push, if_neg (by simp)]
  exact (MapKept.heap_alloc w _).1

end Go.Proofs.YteldfmgjbgedaaaGreat
