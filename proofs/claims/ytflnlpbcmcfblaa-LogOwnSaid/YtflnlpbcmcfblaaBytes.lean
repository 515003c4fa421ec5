/-
  Bytes in rows of their own: append, string(b), spoil.
-/
import Derived.Test.YtflnlpbcmcfblaaLoad
import Derived.Laws.IdiomStrings
namespace Go.Proofs.Ytflnlpbcmcfblaa
open Go.RowKit

/-- Bytes in a row of their own, or nil. -/
def OwnB (w : World) (v : Value) (b : List UInt8) (base : Nat) : Prop := (v = .slice none 0 0 ∧ b = []) ∨ OwnBytes w v b base

theorem OwnB.nil (w : World) (base : Nat) : OwnB w (.slice none 0 0) [] base := .inl ⟨rfl, rfl⟩
theorem OwnB.at_ {w : World} {v : Value} {b : List UInt8} {base : Nat} (h : OwnB w v b base) : BytesAt w v b := by
  rcases h with ⟨rfl, rfl⟩ | h
  · exact ⟨none, 0, rfl, .inl rfl⟩
  · exact h.at_
theorem OwnB.lt {w : World} {v : Value} {b : List UInt8} {base : Nat} (h : OwnB w v b base) {k : Nat} (hk : v.ownBlock = some k) : base ≤ k ∧ k < w.heap.size := by
  rcases h with ⟨rfl, rfl⟩ | h
  · cases hk
  · exact h.lt hk
theorem OwnB.keep {w w' : World} {v : Value} {b : List UInt8} {base : Nat} (h : OwnB w v b base) {F : Nat → Prop} (hf : Fr F w w') (hF : ∀ k, v.ownBlock = some k → ¬ F k) : OwnB w' v b base :=
  h.imp id (fun h => h.keep hf hF)
theorem OwnB.weaken {w : World} {v : Value} {b : List UInt8} {base base' : Nat} (h : OwnB w v b base) (hb : base' ≤ base) : OwnB w v b base' := h.imp id (fun h => h.weaken hb)
theorem OwnB.shape {w : World} {v : Value} {b : List UInt8} {base : Nat} (h : OwnB w v b base) : ∃ a c, v = .slice a b.length c := by
  rcases h with ⟨rfl, rfl⟩ | ⟨g, ext, rfl, _⟩
  · exact ⟨_, _, rfl⟩
  · exact ⟨_, _, rfl⟩
theorem OwnB.own {w : World} {v : Value} {b : List UInt8} {base : Nat} (h : OwnB w v b base) (hn : 0 < b.length) : OwnBytes w v b base := by
  rcases h with ⟨rfl, rfl⟩ | h
  · simp at hn
  · exact h

theorem bvA_append2 (a b c : List UInt8) : bvA (a ++ b ++ c) = bvA a ++ bvA b ++ bvA c := by rw [bvA_append, bvA_append]
set_option maxRecDepth 20000 in
theorem run_append_B {w : World} (ty : TypeId) {v : Value} {b : List UInt8} {base : Nat} (h : OwnB w v b base) (hbase : base ≤ w.heap.size) {vs : Value} {news : List UInt8} (hs : BytesAt w vs news)
    (hm : b.length + news.length ≤ 140737488355328) :
    ∃ v' w', (Builtin.append_ #[36, 36] ty #[v, vs]).run Try.prog w = .ok v' w' ∧ OwnB w' v' (b ++ news) base ∧ Fr (fun i => v.ownBlock = some i) w w' ∧ (∀ k, v'.ownBlock = some k → v.ownBlock = some k ∨ w.heap.size ≤ k) := by
  obtain ⟨hi0, hzs, hsz⟩ := ti5
  obtain ⟨i, hi, hz, hsize, hby⟩ := info_parts hi0
  obtain ⟨sa, sc, rfl, hs2⟩ := hs
  by_cases hm0 : news = []
  · subst hm0
    have hf : (Builtin.firstCells i.size 0 (.slice sa 0 sc)).run Try.prog w = .ok #[] w := by
      cases sa with
      | none => simp [Builtin.firstCells]
      | some ad => simp [Builtin.firstCells, loadCells, loadCellsFrom]
    refine ⟨v, w, ?_, by simpa using h, Fr.refl _ _, fun k hk => .inl hk⟩
    rcases h with ⟨rfl, rfl⟩ | ⟨g, ext, rfl, _⟩
    · simp [Builtin.append_, run_underlying Try.underlying36, sizeOf, typeInfo, hi, Builtin.lenOf, hf]
    · simp [Builtin.append_, run_underlying Try.underlying36, sizeOf, typeInfo, hi, Builtin.lenOf, hf, storeCells]
  · have hnl : 0 < news.length := List.length_pos_iff.2 hm0
    obtain ⟨gx, ox, rfl, hx1, hx2⟩ := hs2.resolve_left hm0
    have hl : (bvA news).toList.length = news.length * i.size := by rw [hsize]; simp [bvA_size]
    have hnews : ∀ j u, (bvA news).toList[j]? = some u → w.cell? ((⟨gx, ox, none⟩ : Addr).add j) = some u := by
      intro j u hu
      have hj : j < news.length := by
        have := (List.getElem?_eq_some_iff.1 hu).1
        simpa [bvA_size] using this
      rw [Addr.add_lit, cell?_row, ← cut_get hx1 j hj, hx2]
      simpa using hu
    have hzc : (Value.int IntKind.u8 0).cells = #[.int .u8 0] := rfl
    rcases h with ⟨rfl, rfl⟩ | ⟨g, ext, rfl, hg1, hg2, hg3, hg4⟩
    · have hr := run_append_nil (P := Try.prog) w 36 ty 5 i _ Try.underlying36 hi hz ⟨gx, ox, none⟩ news.length sc _ hl hnews (by omega) (by omega) (by rw [hby]; omega)
      refine ⟨_, _, hr, .inr ⟨w.heap.size, List.replicate (grownCap w news.length 0 5 - news.length) 0, ?_, hbase, live_alloc_at _ _ _ _ rfl, ?_, ?_⟩, (Fr.refl _ _).drew.alloc _, fun k hk => .inr (by simp [Value.ownBlock] at hk; omega)⟩
      · simp only [List.nil_append, List.length_replicate]
        rw [Nat.add_sub_cancel' (grownCap_ge w news.length 0 5)]
      · simp only [List.nil_append, List.length_replicate]
        rw [Nat.add_sub_cancel' (grownCap_ge w news.length 0 5)]
        exact grownCap_le_maxLen w news.length 0 5 (by simp only [maxLen]; simp at hm; omega)
      · rw [rowOf_alloc_at _ _ _ _ _ (by rfl), hzc, zeroCells_u8, List.nil_append, bvA_append]
    · obtain ⟨t', hg⟩ := live_obj hg2
      have hrs : (rowOf w g).size = b.length + ext.length := by rw [hg4, bvA_size, List.length_append]
      by_cases hroom : b.length + news.length ≤ b.length + ext.length
      · have hfit2 : b.length * i.size + (bvA news).toList.length ≤ (rowOf w g).size := by rw [hl, hsize, hrs]; omega
        have hf := run_firstCells_some (P := Try.prog) w i.size news.length ⟨gx, ox, none⟩ news.length sc _ hl hnews
        have hst := run_storeCells_at Try.prog g (b.length * i.size) t' (bvA news).toList 0 (rowOf w g) w hg (by simpa using hfit2) (fun u hu => bvA_ones news u (by simpa using hu))
        simp only [Nat.add_zero] at hst
        have he : news.length ≤ ext.length := by omega
        have hr : (Builtin.append_ #[36, 36] ty #[.slice (some ⟨g, 0, none⟩) b.length (b.length + ext.length), .slice (some ⟨gx, ox, none⟩) news.length sc]).run Try.prog w =
            .ok (.slice (some ⟨g, 0, none⟩) (b.length + news.length) (b.length + ext.length)) (w.setRow g ((rowOf w g).toList.take (b.length * i.size) ++ (bvA news).toList ++ (rowOf w g).toList.drop (b.length * i.size + (bvA news).toList.length)).toArray) := by
          simp [Builtin.append_, run_underlying Try.underlying36, sizeOf, typeInfo, hi, Builtin.lenOf, he, hf, Addr.add_lit, hst]
        refine ⟨_, _, hr, .inr ⟨g, ext.drop news.length, ?_, hg1, by rw [live_setRow]; exact hg2, ?_, ?_⟩, (Fr.refl _ _).setRow _ _ (fun _ => rfl), fun k hk => .inl hk⟩
        · simp only [List.length_append, List.length_drop]
          congr 1; omega
        · simp only [List.length_append, List.length_drop]; omega
        · rw [rowOf_setRow_same w g _ hg2, hg4, hsize, Nat.mul_one]
          apply Array.ext'
          simp only [bvA, List.map_append, List.length_map, List.append_assoc]
          rw [List.take_append_of_le_length (by simp), List.take_of_length_le (by simp), List.drop_append, List.drop_of_length_le (by simp)]
          simp
      · have hholds : ∀ j u, (bvA b).toList[j]? = some u → w.cell? ((⟨g, 0, none⟩ : Addr).add j) = some u := by
          intro j u hu
          have hj : j < b.length := by have := (List.getElem?_eq_some_iff.1 hu).1; simpa [bvA_size] using this
          rw [Addr.add_lit, cell?_row, Nat.zero_add, hg4, bvA_append, Array.getElem?_append_left (by rw [bvA_size]; exact hj)]
          simpa using hu
        have hlt : b.length + ext.length < b.length + news.length := by omega
        have hnn := nextslicecap_le (need := b.length + news.length) (old := b.length + ext.length) hlt
        have hr := run_append_grow (P := Try.prog) w 36 ty 5 i _ Try.underlying36 hi hz ⟨g, 0, none⟩ b.length (b.length + ext.length) (bvA b).toList (by rw [hsize]; simp [bvA_size]) hholds ⟨gx, ox, none⟩ news.length sc _ hl hnews (by omega) (by omega) (by rw [hby]; omega)
        refine ⟨_, _, hr, .inr ⟨w.heap.size, List.replicate (grownCap w (b.length + news.length) (b.length + ext.length) 5 - (b.length + news.length)) 0, ?_, hbase, live_alloc_at _ _ _ _ rfl, ?_, ?_⟩, (Fr.refl _ _).drew.alloc _, fun k hk => .inr (by simp [Value.ownBlock] at hk; omega)⟩
        · simp only [List.length_append, List.length_replicate]
          rw [Nat.add_sub_cancel' (grownCap_ge w (b.length + news.length) (b.length + ext.length) 5)]
        · simp only [List.length_append, List.length_replicate]
          rw [Nat.add_sub_cancel' (grownCap_ge w (b.length + news.length) (b.length + ext.length) 5)]
          exact grownCap_le_maxLen w _ _ 5 (by simp only [maxLen]; omega)
        · rw [rowOf_alloc_at _ _ _ _ _ (by rfl), hzc, zeroCells_u8, bvA_append, bvA_append]

/-- The same as an arm of the walk. -/
theorem wpList_append_B {w : World} {ops : Array Oper} {rest : List Oper} {o : Oper} {a : Act} {Q : Exit → Act → World → Prop} (hgd : o.guard = none) (s y : Operand)
    (ho : o.op = .call { callee := .builtin .append, args := #[s, y], argTypes := #[36, 36] }) (v : Value) (b : List UInt8) (base : Nat) (hs : a.eval s = v) (h : OwnB w v b base) (hbase : base ≤ w.heap.size)
    (vs : Value) (news : List UInt8) (hy : a.eval y = vs) (hn : BytesAt w vs news) (hm : b.length + news.length ≤ 140737488355328)
    (hK : ∀ v' w', OwnB w' v' (b ++ news) base → Fr (fun i => v.ownBlock = some i) w w' → (∀ k, v'.ownBlock = some k → v.ownBlock = some k ∨ w.heap.size ≤ k) →
      wpList Try.prog ops Q rest (a.put o.dst v') w') :
    wpList Try.prog ops Q (o :: rest) a w := by
  obtain ⟨v', w', hrun, a1, a2, a3⟩ := run_append_B o.type h hbase hn hm
  refine wpList_plain hgd fun K hk => ?_
  unfold Oper.wp
  simp [execOp, ho, resolve, invoke, builtin, hs, hy, hrun, Result.andThen]
  exact hk _ _ (hK v' w' a1 a2 a3)

/-! ### string(b), alike -/

theorem run_string36 {w : World} {v : Value} {b : List UInt8} (h : BytesAt w v b) : (convert 36 9 v).run Try.prog w = .ok (.string ⟨b.toArray⟩) w := by
  obtain ⟨a, cap, rfl, h | ⟨g, off, rfl, h1, h2⟩⟩ := h
  · subst h
    cases a with
    | none =>
      rw [run_convert_bytes_string w 36 9 5 none _ cap Try.underlying36 Try.underlying5 Try.underlying9]
      simp [Conv.bytesToString]
      rfl
    | some ad => exact run_convert_bytes_back w 36 9 5 ad cap [] Try.underlying36 Try.underlying5 Try.underlying9 (fun j hj => by simp at hj)
  · refine run_convert_bytes_back w 36 9 5 ⟨g, off, none⟩ cap b Try.underlying36 Try.underlying5 Try.underlying9 (fun j hj => ?_)
    rw [Addr.add_lit, cell?_row, ← cut_get h1 j hj, h2, bvA_get, List.getElem?_eq_getElem hj]
    rfl

def conv36 (v : Value) : Sem Value := convert 36 9 v
section
variable (ρ : Operand → Value) (dst : Option Tmp) (x y : Operand) (type : TypeId) (pos : String) (after : Array Edge) (guard : Option (Nat × Bool))
@[go_sem ↓] theorem execOp_conv36 : execOp ρ { dst, op := .convert 36 9 x, type, pos, after, guard } = (do pure (.value (← conv36 (ρ x)))) := rfl
end
attribute [go_sem high] execOp_conv36

@[go_sem] theorem run_make36z (w : World) (c : Int) (h0 : 0 ≤ c) (h1 : c ≤ 140737488355340) (_hc : c ≠ 0) :
    (makeBig 36 (.int .i64 0) (.int .i64 c)).run Try.prog w = .ok (.slice (some ⟨w.heap.size, 0, none⟩) 0 c.toNat) (w.alloc (.cells (Array.replicate c.toNat (.int .u8 0)) 5)) := by
  have := run_make_rep w 36 5 _ (.int .u8 0) 1 1 Try.underlying36 infoB5 (by simp [Value.cells]) (by simp [Value.cells]) (by simp [Value.cells]) 0 c (Int.le_refl _) h0 (by omega) (by omega)
  simpa using this

set_option maxHeartbeats 1000000 in
theorem alike_any (w : World) (va vb : Value) (a b : List UInt8) (ha : BytesAt w va a) (hb : BytesAt w vb b) :
    Calls Try.prog 26 #[va, vb] w fun e w' => e = .returned (.bool (decide (a = b))) ∧ w = w' := by
  have h1 : (conv36 va).run Try.prog w = _ := run_string36 ha
  have h2 : (conv36 vb).run Try.prog w = _ := run_string36 hb
  have hab : ((⟨a.toArray⟩ : ByteArray).toList == (⟨b.toArray⟩ : ByteArray).toList) = decide (a = b) := by
    rw [Bool.eq_iff_iff, ByteArray.toList_eq, ByteArray.toList_eq]; simp
  obtain ⟨aa, ca, rfl, _⟩ := ha
  obtain ⟨ab, cb, rfl, _⟩ := hb
  obtain ⟨sa, hsa⟩ : ∃ s : ByteArray, s = ⟨a.toArray⟩ := ⟨_, rfl⟩
  obtain ⟨sb, hsb⟩ : ∃ s : ByteArray, s = ⟨b.toArray⟩ := ⟨_, rfl⟩
  rw [← hsa] at h1 hab
  rw [← hsb] at h2 hab
  have HAB := Lib.hid hab
  clear hsa hsb hab
  go_enter Try.func26, Try.ntmps26
  go_wp2
  go_ret
  rw [← HAB.out]
  exact ⟨rfl, rfl⟩

set_option maxRecDepth 20000 in
set_option maxHeartbeats 1000000 in
theorem spoil_any (w : World) (v : Value) (b : List UInt8) (base : Nat) (h : OwnBytes w v b base) :
    Calls Try.prog 28 #[v] w fun e w' => e = .returned (.tuple #[]) ∧ Fr (fun i => v.ownBlock = some i) w w' := by
  obtain ⟨g, ext, rfl, h1, h2, h3, h4⟩ := h
  obtain ⟨C, hC⟩ : ∃ C, b.length + ext.length = C := ⟨_, rfl⟩
  have hcm : C ≤ 9223372036854775807 := by rw [← hC]; simpa only [maxLen] using h3
  have hbc : b.length ≤ C := by omega
  have hs : (rowOf w g).size = C := by rw [h4, bvA_size, List.length_append, hC]
  have HC : Hid (∀ i, i < C → ∃ n, (rowOf w g)[i]? = some (.int .u8 n)) := Lib.hid (fun i hi => by
    have : i < (b ++ ext).length := by rw [List.length_append, hC]; exact hi
    exact ⟨_, by rw [h4, bvA_get, List.getElem?_eq_getElem this]; rfl⟩)
  rw [hC]
  clear h3 h4 hC
  go_enter Try.func28, Try.ntmps28
  go_wp2
  go_loopw [2, 9] (fun _ i wr => ∃ k : Nat, k ≤ C ∧ i = .int .i64 k ∧ live wr g = true ∧ (rowOf wr g).size = C ∧ (∀ i, i < C → ∃ n, (rowOf wr g)[i]? = some (.int .u8 n)) ∧ Fr (fun i => some g = some i) w wr) (fun _ i _ => C - (intOf i).toNat)
  case atStart => exact ⟨0, Nat.zero_le _, rfl, h2, hs, HC.out, Fr.refl _ _⟩
  case round =>
    obtain ⟨k, hk, rfl, lw, hsz, hall, hf⟩ := hrel
    have HA := Lib.hid hall
    have HF := Lib.hid hf
    clear hall hf
    by_cases hlt : k < C
    · have hki : (k : Int) < (C : Int) := by omega
      obtain ⟨n, hn⟩ := HA.out k hlt
      have hkz : k < (rowOf wr g).size := by omega
      have hn2 : (rowOf wr g)[k] = .int .u8 n := by rw [Array.getElem?_eq_getElem hkz] at hn; exact Option.some.inj hn
      clear hn
      go_wp2
      go_roundw
      case rel =>
        refine ⟨k + 1, by omega, by go_num, by simp [go_sem, lw], by simp [go_sem, lw, hsz], ?_, HF.out.trans ((Fr.refl (fun i => some g = some i) wr).setRow _ _ (fun _ => rfl)) (fun _ _ h => h)⟩
        intro i hi
        obtain ⟨m, hm⟩ := HA.out i hi
        rw [rowOf_setRow_same _ _ _ lw, setIf_get hm]
        by_cases e : k = i <;> simp [e]
      case measure => simp [intOf]; omega
    · obtain rfl : k = C := by omega
      go_wp2
      go_end0
      exact ⟨rfl, HF.out⟩

end Go.Proofs.Ytflnlpbcmcfblaa
