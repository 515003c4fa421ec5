/-
  append of so many noughts ('append(b, make([]byte, n)...)').
-/
import Derived.Test.YtflnlpbcmcfblaaTaken
namespace Go.Proofs.Ytflnlpbcmcfblaa
open Go.RowKit

set_option maxRecDepth 20000 in
theorem run_append_Z {w : World} (ty : TypeId) {v : Value} {b : List UInt8} {base : Nat} (h : OwnB w v b base) (hbase : base ≤ w.heap.size) (n : Nat) (hn : 0 < n) (hm : b.length + n ≤ 1000) :
    ∃ v' w', (Builtin.append_ #[36, 3] ty #[v, .int .i64 n]).run Try.prog w = .ok v' w' ∧ OwnB w' v' (b ++ List.replicate n 0) base ∧ Fr (fun i => v.ownBlock = some i) w w' ∧ (∀ k, v'.ownBlock = some k → v.ownBlock = some k ∨ w.heap.size ≤ k) := by
  obtain ⟨hi0, hzs, hsz⟩ := ti5
  obtain ⟨i, hi, hz, hsize, hby⟩ := info_parts hi0
  have hzc : (Value.int IntKind.u8 0).cells = #[.int .u8 0] := rfl
  have hw : IntKind.i64.wrap (n : Int) = (n : Int) := by rw [IntKind.wrap_i64]; omega
  have h1 : ¬ ((n : Int) < 0) := by omega
  have h2 : ¬ (281474976710656 < (n : Int)) := by omega
  have hn0 : ¬ n = 0 := by omega
  rcases h with ⟨rfl, rfl⟩ | ⟨g, ext, rfl, hg1, hg2, hg3, hg4⟩
  · have h48 : ¬ (281474976710656 < Builtin.nextslicecap n 0) := by rw [nextslicecap_zero hn]; omega
    have h63 : ¬ (9223372036854775807 < (n : Int)) := by omega
    have hr : (Builtin.append_ #[36, 3] ty #[.slice none 0 0, .int .i64 n]).run Try.prog w = .ok (.slice (some ⟨w.heap.size, 0, none⟩) n (grownCap w n 0 5))
        (w.drew.alloc (.cells (bvA (List.replicate n 0) ++ Builtin.zeroCells #[.int .u8 0] (grownCap w n 0 5 - n)) 5)) := by
      simp [Builtin.append_, run_underlying Try.underlying36, run_underlying Try.underlying3, sizeOf, typeInfo, zeroValue, hi, hz, hsize, hby, hw, h1, h2, hn0, h48, h63, Question.forced, newRow, grownCap, Builtin.firstCells, zeroCells_u8, hzc, asInt, asIntOf]
    refine ⟨_, _, hr, .inr ⟨w.heap.size, List.replicate (grownCap w n 0 5 - n) 0, ?_, hbase, live_alloc_at _ _ _ _ rfl, ?_, ?_⟩, (Fr.refl _ _).drew.alloc _, fun k hk => .inr (by simp [Value.ownBlock] at hk; omega)⟩
    · simp only [List.nil_append, List.length_replicate]
      rw [Nat.add_sub_cancel' (grownCap_ge w n 0 5)]
    · simp only [List.nil_append, List.length_replicate]
      rw [Nat.add_sub_cancel' (grownCap_ge w n 0 5)]
      exact grownCap_le_maxLen w n 0 5 (by simp only [maxLen]; omega)
    · rw [rowOf_alloc_at _ _ _ _ _ (by rfl), zeroCells_u8, List.nil_append, bvA_append]
  · obtain ⟨t', hg⟩ := live_obj hg2
    have hrs : (rowOf w g).size = b.length + ext.length := by rw [hg4, bvA_size, List.length_append]
    by_cases hroom : b.length + n ≤ b.length + ext.length
    · have hl : (bvA (List.replicate n 0)).toList.length = n := by simp [bvA_size]
      have hfit2 : b.length + (bvA (List.replicate n 0)).toList.length ≤ (rowOf w g).size := by rw [hl, hrs]; omega
      have hst := run_storeCells_at Try.prog g b.length t' (bvA (List.replicate n 0)).toList 0 (rowOf w g) w hg (by simpa using hfit2) (fun u hu => bvA_ones _ u (by simpa using hu))
      simp only [Nat.add_zero] at hst
      have hr : (Builtin.append_ #[36, 3] ty #[.slice (some ⟨g, 0, none⟩) b.length (b.length + ext.length), .int .i64 n]).run Try.prog w =
          .ok (.slice (some ⟨g, 0, none⟩) (b.length + n) (b.length + ext.length)) (w.setRow g ((rowOf w g).toList.take b.length ++ (bvA (List.replicate n 0)).toList ++ (rowOf w g).toList.drop (b.length + (bvA (List.replicate n 0)).toList.length)).toArray) := by
        have he : n ≤ ext.length := by omega
        simp [Builtin.append_, run_underlying Try.underlying36, run_underlying Try.underlying3, sizeOf, typeInfo, zeroValue, hi, hz, hsize, hby, hw, h1, h2, hn0, he, zeroCells_u8, hzc, asInt, asIntOf, Addr.add_lit, hst]
      refine ⟨_, _, hr, .inr ⟨g, ext.drop n, ?_, hg1, by rw [live_setRow]; exact hg2, ?_, ?_⟩, (Fr.refl _ _).setRow _ _ (fun _ => rfl), fun k hk => .inl hk⟩
      · simp only [List.length_append, List.length_drop, List.length_replicate]
        congr 1; omega
      · simp only [List.length_append, List.length_drop, List.length_replicate]; omega
      · rw [rowOf_setRow_same w g _ hg2, hg4]
        apply Array.ext'
        simp only [bvA, List.map_append, List.length_map, List.append_assoc]
        rw [List.take_append_of_le_length (by simp), List.take_of_length_le (by simp), List.drop_append, List.drop_of_length_le (by simp)]
        simp
    · have hlt : b.length + ext.length < b.length + n := by omega
      have hnn := nextslicecap_le (need := b.length + n) (old := b.length + ext.length) hlt
      have hroom2 : ¬ n ≤ ext.length := by omega
      have h48 : ¬ (281474976710656 < Builtin.nextslicecap (b.length + n) (b.length + ext.length)) := by omega
      have h63 : ¬ (9223372036854775807 < ((b.length : Int) + (n : Int))) := by omega
      have hfirst : (Builtin.firstCells 1 b.length (.slice (some ⟨g, 0, none⟩) b.length (b.length + ext.length))).run Try.prog w.drew = .ok (bvA b) w.drew := by
        have := run_firstCells_row (P := Try.prog) w.drew 1 b.length g 0 b.length (b.length + ext.length) (by rw [rowOf_drew, hrs]; omega)
        rw [this, rowOf_drew, hg4, Nat.mul_one]
        congr 1
        exact cut_ext (bvA_size b) (by rw [bvA_size]; simp) (fun j hj => by rw [bvA_get, bvA_get, Nat.zero_add, List.getElem?_append_left hj])
      have hr : (Builtin.append_ #[36, 3] ty #[.slice (some ⟨g, 0, none⟩) b.length (b.length + ext.length), .int .i64 n]).run Try.prog w =
          .ok (.slice (some ⟨w.heap.size, 0, none⟩) (b.length + n) (grownCap w (b.length + n) (b.length + ext.length) 5))
            (w.drew.alloc (.cells (bvA b ++ bvA (List.replicate n 0) ++ Builtin.zeroCells #[.int .u8 0] (grownCap w (b.length + n) (b.length + ext.length) 5 - (b.length + n))) 5)) := by
        simp [Builtin.append_, run_underlying Try.underlying36, run_underlying Try.underlying3, sizeOf, typeInfo, zeroValue, hi, hz, hsize, hby, hw, h1, h2, hn0, hroom2, h48, h63, Question.forced, newRow, grownCap, hfirst, zeroCells_u8, hzc, asInt, asIntOf]
      refine ⟨_, _, hr, .inr ⟨w.heap.size, List.replicate (grownCap w (b.length + n) (b.length + ext.length) 5 - (b.length + n)) 0, ?_, hbase, live_alloc_at _ _ _ _ rfl, ?_, ?_⟩, (Fr.refl _ _).drew.alloc _, fun k hk => .inr (by simp [Value.ownBlock] at hk; omega)⟩
      · simp only [List.length_append, List.length_replicate]
        rw [Nat.add_sub_cancel' (grownCap_ge w (b.length + n) (b.length + ext.length) 5)]
      · simp only [List.length_append, List.length_replicate]
        rw [Nat.add_sub_cancel' (grownCap_ge w (b.length + n) (b.length + ext.length) 5)]
        exact grownCap_le_maxLen w _ _ 5 (by simp only [maxLen]; omega)
      · rw [rowOf_alloc_at _ _ _ _ _ (by rfl), zeroCells_u8, bvA_append, bvA_append]

/-- The same as an arm of the walk. -/
theorem wpList_append_Z {w : World} {ops : Array Oper} {rest : List Oper} {o : Oper} {a : Act} {Q : Exit → Act → World → Prop} (hgd : o.guard = none) (s y : Operand)
    (ho : o.op = .call { callee := .builtin .append, args := #[s, y], argTypes := #[36, 3] }) (v : Value) (b : List UInt8) (base : Nat) (hs : a.eval s = v) (h : OwnB w v b base) (hbase : base ≤ w.heap.size)
    (n : Nat) (hy : a.eval y = .int .i64 n) (hn : 0 < n) (hm : b.length + n ≤ 1000)
    (hK : ∀ v' w', OwnB w' v' (b ++ List.replicate n 0) base → Fr (fun i => v.ownBlock = some i) w w' → (∀ k, v'.ownBlock = some k → v.ownBlock = some k ∨ w.heap.size ≤ k) →
      wpList Try.prog ops Q rest (a.put o.dst v') w') :
    wpList Try.prog ops Q (o :: rest) a w := by
  obtain ⟨v', w', hrun, a1, a2, a3⟩ := run_append_Z o.type h hbase n hn hm
  refine wpList_plain hgd fun K hk => ?_
  unfold Oper.wp
  simp [execOp, ho, resolve, invoke, builtin, hs, hy, hrun, Result.andThen]
  exact hk _ _ (hK v' w' a1 a2 a3)

end Go.Proofs.Ytflnlpbcmcfblaa
