/-
  Package log: a record's block.
-/
import Derived.Test.YtflnlpbcmcfblaaOpenL
namespace Go.Proofs.Ytflnlpbcmcfblaa
open Go.RowKit

set_option maxRecDepth 20000 in
theorem run_append_Z0 {w : World} (ty : TypeId) {v : Value} {b : List UInt8} {base : Nat} (h : OwnB w v b base) (hb : 0 < b.length) (hm : b.length ≤ 1000) :
    (Builtin.append_ #[36, 3] ty #[v, .int .i64 0]).run Try.prog w = .ok v w := by
  obtain ⟨hi0, hzs, hsz⟩ := ti5
  obtain ⟨i, hi, hz, hsize, hby⟩ := info_parts hi0
  have hzc : (Value.int IntKind.u8 0).cells = #[.int .u8 0] := rfl
  have hw : IntKind.i64.wrap 0 = 0 := by rw [IntKind.wrap_i64]; rfl
  rcases h with ⟨rfl, rfl⟩ | ⟨g, ext, rfl, hg1, hg2, hg3, hg4⟩
  · simp at hb
  · simp [Builtin.append_, run_underlying Try.underlying36, run_underlying Try.underlying3, sizeOf, typeInfo, zeroValue, hi, hz, hby, zeroCells_u8, hzc, asInt, asIntOf, hw, storeCells]

/-- The same as an arm of the walk. -/
theorem wpList_append_Z0 {w : World} {ops : Array Oper} {rest : List Oper} {o : Oper} {a : Act} {Q : Exit → Act → World → Prop} (hgd : o.guard = none) (s y : Operand)
    (ho : o.op = .call { callee := .builtin .append, args := #[s, y], argTypes := #[36, 3] }) (v : Value) (b : List UInt8) (base : Nat) (hs : a.eval s = v) (h : OwnB w v b base) (hb : 0 < b.length) (hm : b.length ≤ 1000)
    (hy : a.eval y = .int .i64 0) (hK : wpList Try.prog ops Q rest (a.put o.dst v) w) :
    wpList Try.prog ops Q (o :: rest) a w := by
  have hrun := run_append_Z0 o.type h hb hm
  refine wpList_plain hgd fun K hk => ?_
  unfold Oper.wp
  simp [execOp, ho, resolve, invoke, builtin, hs, hy, hrun, Result.andThen]
  exact hk _ _ hK

/-- A record's block. -/
def markH (m : MarkV) : List UInt8 := [177] ++ leB m.gen 6 ++ leB m.life 6 ++ leB m.record 4 ++ leB m.place 2 ++ leB m.long 3
def markB (m : MarkV) (load : List UInt8) : List UInt8 := markH m ++ List.replicate 2 0 ++ load ++ List.replicate (40 - load.length) 0
theorem markH_len (m : MarkV) : (markH m).length = 22 := by simp [markH, leB_len]
theorem markB_len (m : MarkV) (load : List UInt8) (h : load.length ≤ 40) : (markB m load).length = 64 := by simp [markB, markH_len]; omega

set_option maxRecDepth 20000 in
set_option maxHeartbeats 4000000 in
theorem markBlock_any (w : World) (g l r pl lo : Nat) (hg : g < 18446744073709551616) (hl : l < 18446744073709551616) (hr : r < 9223372036854775808) (hpl : pl < 9223372036854775808) (hlo : lo < 9223372036854775808)
    (vl : Value) (load : List UInt8) (hld : BytesAt w vl load) (h40 : load.length ≤ 40) :
    Calls Try.prog 96 #[.agg #[.int .u64 g, .int .u64 l, .int .i64 r, .int .i64 pl, .int .i64 lo], vl] w fun e w' => ∃ v', e = .returned v' ∧ OwnB w' v' (markB ⟨g, l, r, pl, lo⟩ load) w.heap.size ∧ Fr (fun _ => False) w w' := by
  have HG := Lib.hid hg
  have HL := Lib.hid hl
  have HLD := Lib.hid hld
  have w1 : IntKind.u64.wrap (r : Int) = (r : Int) := wraps_u64 _ (by omega) (by omega)
  have w2 : IntKind.u64.wrap (pl : Int) = (pl : Int) := wraps_u64 _ (by omega) (by omega)
  have w3 : IntKind.u64.wrap (lo : Int) = (lo : Int) := wraps_u64 _ (by omega) (by omega)
  have HR := Lib.hid (show r < 18446744073709551616 by omega)
  have HP := Lib.hid (show pl < 18446744073709551616 by omega)
  have HO := Lib.hid (show lo < 18446744073709551616 by omega)
  clear hg hl hr hpl hlo hld
  go_enter Try.func96, Try.ntmps96
  go_wp2_with fail
  have B0 := Lib.hid (bld_start w w (Fr.refl _ _) #[.int .u64 g, .int .u64 l, .int .i64 r, .int .i64 pl, .int .i64 lo] 142 177 (.int .u8 177) rfl)
  obtain ⟨b1, hb1⟩ : ∃ b, w.heap.size = b := ⟨_, rfl⟩
  have HB1 := Lib.hid hb1
  rw [hb1] at B0 ⊢
  clear hb1
  show Calls _ _ #[_, _, .int .i64 ((6 : Nat) : Int)] _ _
  refine (bld_put B0.out g 6 HG.out (by omega) (by simp)).mono ?_
  rintro e w1 ⟨v1, rfl, o1⟩
  have B1 := Lib.hid o1
  have r1 := o1.row
  clear o1 B0
  go_wp2_with fail
  show Calls _ _ #[_, _, .int .i64 ((6 : Nat) : Int)] _ _
  refine (bld_put B1.out l 6 HL.out (by omega) (by simp [leB_len])).mono ?_
  rintro e w2 ⟨v2, rfl, o2⟩
  have B2 := Lib.hid o2
  have r2 := o2.row
  clear o2 B1 r1
  go_wp2_with fail
  show Calls _ _ #[_, _, .int .i64 ((4 : Nat) : Int)] _ _
  refine (bld_put B2.out r 4 HR.out (by omega) (by simp [leB_len])).mono ?_
  rintro e w3 ⟨v3, rfl, o3⟩
  have B3 := Lib.hid o3
  have r3 := o3.row
  clear o3 B2 r2
  go_wp2_with fail
  show Calls _ _ #[_, _, .int .i64 ((2 : Nat) : Int)] _ _
  refine (bld_put B3.out pl 2 HP.out (by omega) (by simp [leB_len])).mono ?_
  rintro e w4 ⟨v4, rfl, o4⟩
  have B4 := Lib.hid o4
  have r4 := o4.row
  clear o4 B3 r3
  go_wp2_with fail
  show Calls _ _ #[_, _, .int .i64 ((3 : Nat) : Int)] _ _
  refine (bld_put B4.out lo 3 HO.out (by omega) (by simp [leB_len])).mono ?_
  rintro e w5 ⟨v5, rfl, o5⟩
  obtain ⟨bh, hbh⟩ : ∃ bh, markH ⟨g, l, r, pl, lo⟩ = bh := ⟨_, rfl⟩
  have LH := Lib.hid (show bh.length = 22 by rw [← hbh]; exact markH_len _)
  have B5 := Lib.hid (show Bld w w5 b1 _ v5 bh by rw [← hbh]; exact o5)
  have MB := Lib.hid (show markB ⟨g, l, r, pl, lo⟩ load = bh ++ List.replicate 2 0 ++ load ++ List.replicate (40 - load.length) 0 by rw [← hbh]; rfl)
  clear o5 B4 r4 hbh
  obtain ⟨aL, cL, hvl⟩ := show ∃ a c, vl = .slice a load.length c from ⟨HLD.out.choose, HLD.out.choose_spec.choose, HLD.out.choose_spec.choose_spec.1⟩
  subst hvl
  obtain ⟨q, hq⟩ : ∃ q, load.length = q := ⟨_, rfl⟩
  have HQ := Lib.hid hq
  rw [hq] at h40 HLD ⊢
  obtain ⟨a5, c5, e5⟩ := B5.out.own.shape
  rw [LH.out] at e5
  subst e5
  have hlt5 := B5.out.lt
  have L6 := Lib.hid (show (bh ++ List.replicate 2 0).length = 24 by simp [LH.out])
  have L7 := Lib.hid (show (bh ++ List.replicate 2 0 ++ load).length = 24 + q by simp [LH.out]; omega)
  clear hq
  have FA := Lib.hid (show ∀ w6, Fr (fun i => (Value.slice a5 22 c5).ownBlock = some i) w5 w6 → Fr (fun _ => False) w w6 from fun w6 f6 => B5.out.fr.trans f6 (fun i hi e => by have := (B5.out.own.lt e).1; have := HB1.out; omega))
  have FB := Lib.hid (show ∀ w6 v6 b6 w7, Fr (fun _ => False) w w6 → OwnB w6 v6 b6 (b1 + 1) → Fr (fun i => v6.ownBlock = some i) w6 w7 → Fr (fun _ => False) w w7 from fun w6 v6 b6 w7 f6 o6 f7 => f6.trans f7 (fun i hi e => by have := (o6.lt e).1; have := HB1.out; omega))
  by_cases hz : q = 40
  · subst hz
    go_wp2_with (at_builtin; first
      | (refine wpList_append_Z rfl (.tmp 30) (.tmp 33) rfl (.slice a5 22 c5) bh (b1 + 1) rfl B5.out.own (by omega) 2 rfl (by omega) (by rw [LH.out]; omega) ?_; intro v6 w6 o6 f6 x6; have O6 := Lib.hid o6; have F6 := Lib.hid (FA.out _ f6); have hlt6 := Nat.lt_of_lt_of_le hlt5 f6.size; have LD6 := Lib.hid (HLD.out.later F6.out); obtain ⟨a6, c6, e6⟩ := o6.shape; rw [L6.out] at e6; subst e6; clear o6 f6 x6)
      | (refine wpList_append_B rfl (.tmp 35) (.tmp 36) rfl (.slice a6 24 c6) (bh ++ List.replicate 2 0) (b1 + 1) rfl O6.out (by omega) (.slice aL 40 cL) load rfl LD6.out (by rw [L6.out, HQ.out]; omega) ?_; intro v7 w7 o7 f7 x7; have O7 := Lib.hid o7; have F7 := Lib.hid (FB.out _ _ _ _ F6.out O6.out f7); obtain ⟨a7, c7, e7⟩ := o7.shape; rw [L7.out] at e7; subst e7; clear o7 f7 x7)
      | (refine wpList_append_Z0 rfl (.tmp 38) (.tmp 41) rfl (.slice a7 64 c7) _ (b1 + 1) rfl O7.out (by rw [L7.out]; omega) (by rw [L7.out]; omega) rfl ?_))
    go_ret
    refine ⟨_, rfl, ?_, F7.out⟩
    rw [MB.out, HQ.out]
    simpa using O7.out.weaken (show w.heap.size ≤ b1 + 1 by have := HB1.out; omega)
  · have hq1 : q + (40 - q) = 40 := by omega
    have e64 : ((40 - q : Nat) : Int) = 64 - (24 + (q : Int)) := by omega
    go_wp2_with (at_builtin; first
      | (refine wpList_append_Z rfl (.tmp 30) (.tmp 33) rfl (.slice a5 22 c5) bh (b1 + 1) rfl B5.out.own (by omega) 2 rfl (by omega) (by rw [LH.out]; omega) ?_; intro v6 w6 o6 f6 x6; have O6 := Lib.hid o6; have F6 := Lib.hid (FA.out _ f6); have hlt6 := Nat.lt_of_lt_of_le hlt5 f6.size; have LD6 := Lib.hid (HLD.out.later F6.out); obtain ⟨a6, c6, e6⟩ := o6.shape; rw [L6.out] at e6; subst e6; clear o6 f6 x6)
      | (refine wpList_append_B rfl (.tmp 35) (.tmp 36) rfl (.slice a6 24 c6) (bh ++ List.replicate 2 0) (b1 + 1) rfl O6.out (by omega) (.slice aL q cL) load rfl LD6.out (by rw [L6.out, HQ.out]; omega) ?_; intro v7 w7 o7 f7 x7; have O7 := Lib.hid o7; have hlt7 := Nat.lt_of_lt_of_le hlt6 f7.size; have F7 := Lib.hid (FB.out _ _ _ _ F6.out O6.out f7); obtain ⟨a7, c7, e7⟩ := o7.shape; rw [L7.out] at e7; subst e7; clear o7 f7 x7)
      | (refine wpList_append_Z rfl (.tmp 38) (.tmp 41) rfl (.slice a7 (24 + q) c7) _ (b1 + 1) rfl O7.out (by omega) (40 - q) (by rw [e64]; go_num) (by omega) (by rw [L7.out]; omega) ?_; intro v8 w8 o8 f8 x8; have O8 := Lib.hid o8; have F8 := Lib.hid (FB.out _ _ _ _ F7.out O7.out f8); clear o8 f8 x8))
    go_ret
    refine ⟨_, rfl, ?_, F8.out⟩
    rw [MB.out, HQ.out]
    exact O8.out.weaken (by have := HB1.out; omega)

end Go.Proofs.Ytflnlpbcmcfblaa
