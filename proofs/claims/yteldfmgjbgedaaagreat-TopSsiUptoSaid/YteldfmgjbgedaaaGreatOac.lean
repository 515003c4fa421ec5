/-
  slices.Contains of strings and of numbers (int).
  Package keystonetop: how a play lies in memory.
  Package keystonetop: does, where nothing is done.
-/
import Derived.Test.YteldfmgjbgedaaaGreatMwx
namespace Go.Proofs.YteldfmgjbgedaaaGreat
open Go.RowKit Go.Maps

def strRows (xs : List Key) : List (Array Value) := xs.map fun s => #[.string ⟨s.toArray⟩]
theorem strRows_length (xs : List Key) : (strRows xs).length = xs.length := by simp [strRows]
theorem strRows_snoc (xs : List Key) (s : Key) : strRows (xs ++ [s]) = strRows xs ++ [#[.string ⟨s.toArray⟩]] := by simp [strRows]
theorem strRows_size (xs : List Key) : ∀ y ∈ strRows xs, y.size = 1 := by
  intro y hy
  obtain ⟨s, -, rfl⟩ := List.mem_map.1 hy
  rfl

set_option maxRecDepth 20000 in
set_option maxHeartbeats 2000000 in
theorem index46 (w : World) {v : Value} {xs : List Nat} {base : Nat} (ho : OwnRows w v 1 (natRows xs) base) (t : Nat) :
    Calls Tryz.prog 46 #[v, .int .i64 (t : Nat)] w fun e w' => ∃ i : Int, e = .returned (.int .i64 i) ∧ (0 ≤ i ↔ t ∈ xs) ∧ Fr (fun _ => False) w w' := by
  obtain ⟨a, c, rfl⟩ := ho.len
  have hn : xs.length ≤ 9223372036854775807 := by have := ho.max; rw [natRows_length] at this; exact this
  rw [natRows_length] at ho ⊢
  have HO := Lib.hid ho
  clear ho
  go_enter Tryz.func46, Tryz.ntmps46
  go_wp2
  go_loopw [8] (fun t8 wr => ∃ k : Nat, t8 = .int .i64 (k : Nat) ∧ k ≤ xs.length ∧ t ∉ xs.take k ∧ Fr (fun _ => False) w wr) (fun t8 _ => xs.length - (intOf t8).toNat)
  case atStart => exact ⟨0, rfl, Nat.zero_le _, by simp, Fr.refl _ _⟩
  case round =>
    obtain ⟨k, rfl, hk, hA, hf⟩ := hrel
    have HA := Lib.hid hA
    have HF := Lib.hid hf
    clear hA
    by_cases hlt : k < xs.length
    · obtain ⟨g, rfl, hbg, hlg, -, hxc, hsz, hget⟩ := (HO.out.keep hf (fun _ _ e => e)).get (k := k) (by rw [natRows_length]; exact hlt)
      have hrow : (natRows xs)[k]'(by rw [natRows_length]; exact hlt) = #[.int .i64 (xs[k] : Nat)] := by simp [natRows]
      have c0 : (rowOf wr g)[k]? = some (.int .i64 (xs[k] : Nat)) := by have := hget 0 (by omega); rw [hrow] at this; simpa using this
      have HM := Lib.hid (List.getElem_mem hlt)
      have HTK := Lib.hid (List.take_succ_eq_append_getElem hlt)
      have HLT := Lib.hid hlt
      generalize hq : xs[k] = q at c0 HM HTK
      have hki : (k : Int) < (xs.length : Int) := by omega
      clear hget hrow hq hf
      by_cases htq : t = q
      · subst htq
        have hd : ((t : Int) == (t : Int)) = true := by simp
        go_wp2
        go_ret
        exact ⟨k, rfl, ⟨fun _ => HM.out, fun _ => by omega⟩, HF.out⟩
      · have hd : ((t : Int) == (q : Int)) = false := by rw [beq_eq_false_iff_ne]; omega
        have hd2 : decide ((t : Int) = (q : Int)) = false := decide_eq_false (by omega)
        go_wp2
        go_roundw
        case rel =>
          refine ⟨k + 1, by go_num, by have := HLT.out; omega, ?_, HF.out⟩
          rw [HTK.out, List.mem_append]
          rintro (h | h)
          · exact HA.out h
          · exact htq (List.mem_singleton.1 h)
        case measure => (have := HLT.out; simp only [intOf]; omega)
    · obtain rfl : k = xs.length := by omega
      clear hf
      go_wp2
      go_ret
      refine ⟨-1, rfl, ⟨fun h => by omega, fun h => ?_⟩, HF.out⟩
      have := HA.out
      rw [List.take_of_length_le (Nat.le_refl _)] at this
      exact absurd h this

set_option maxRecDepth 20000 in
set_option maxHeartbeats 2000000 in
theorem contains22 (w : World) {v : Value} {xs : List Nat} {base : Nat} (ho : OwnRows w v 1 (natRows xs) base) (t : Nat) :
    Calls Tryz.prog 22 #[v, .int .i64 (t : Nat)] w fun e w' => ∃ rb, e = .returned (.bool rb) ∧ (rb = true ↔ t ∈ xs) ∧ Fr (fun _ => False) w w' := by
  have HC := Lib.hid (index46 w ho t)
  clear ho
  go_enter Tryz.func22, Tryz.ntmps22
  go_wp2_with (go_at_call 46; refine HC.out.mono ?_; rintro e w3 ⟨i, rfl, hi, hf3⟩)
  go_ret
  exact ⟨_, rfl, by simp, hf3⟩

set_option maxRecDepth 20000 in
set_option maxHeartbeats 2000000 in
theorem index12 (w : World) {v : Value} {xs : List Key} {base : Nat} (ho : OwnRows w v 1 (strRows xs) base) (t : Key) :
    Calls Tryz.prog 12 #[v, .string ⟨t.toArray⟩] w fun e w' => ∃ i : Int, e = .returned (.int .i64 i) ∧ (0 ≤ i ↔ t ∈ xs) ∧ Fr (fun _ => False) w w' := by
  obtain ⟨a, c, rfl⟩ := ho.len
  have hn : xs.length ≤ 9223372036854775807 := by have := ho.max; rw [strRows_length] at this; exact this
  rw [strRows_length] at ho ⊢
  have HO := Lib.hid ho
  clear ho
  go_enter Tryz.func12, Tryz.ntmps12
  go_wp2
  go_loopw [8] (fun t8 wr => ∃ k : Nat, t8 = .int .i64 (k : Nat) ∧ k ≤ xs.length ∧ t ∉ xs.take k ∧ Fr (fun _ => False) w wr) (fun t8 _ => xs.length - (intOf t8).toNat)
  case atStart => exact ⟨0, rfl, Nat.zero_le _, by simp, Fr.refl _ _⟩
  case round =>
    obtain ⟨k, rfl, hk, hA, hf⟩ := hrel
    have HA := Lib.hid hA
    have HF := Lib.hid hf
    clear hA
    by_cases hlt : k < xs.length
    · obtain ⟨g, rfl, hbg, hlg, -, hxc, hsz, hget⟩ := (HO.out.keep hf (fun _ _ e => e)).get (k := k) (by rw [strRows_length]; exact hlt)
      have hrow : (strRows xs)[k]'(by rw [strRows_length]; exact hlt) = #[.string ⟨xs[k].toArray⟩] := by simp [strRows]
      have c0 : (rowOf wr g)[k]? = some (.string ⟨xs[k].toArray⟩) := by have := hget 0 (by omega); rw [hrow] at this; simpa using this
      have HM := Lib.hid (List.getElem_mem hlt)
      have HTK := Lib.hid (List.take_succ_eq_append_getElem hlt)
      have HLT := Lib.hid hlt
      generalize hq : xs[k] = q at c0 HM HTK
      have hki : (k : Int) < (xs.length : Int) := by omega
      clear hget hrow hq hf
      by_cases htq : t = q
      · subst htq
        have hd : (t == t) = true := by simp
        go_wp2
        go_ret
        exact ⟨k, rfl, ⟨fun _ => HM.out, fun _ => by omega⟩, HF.out⟩
      · have hd : (t == q) = false := by simp [htq]
        go_wp2
        go_roundw
        case rel =>
          refine ⟨k + 1, by go_num, by have := HLT.out; omega, ?_, HF.out⟩
          rw [HTK.out, List.mem_append]
          rintro (h | h)
          · exact HA.out h
          · exact htq (List.mem_singleton.1 h)
        case measure => (have := HLT.out; simp only [intOf]; omega)
    · obtain rfl : k = xs.length := by omega
      clear hf
      go_wp2
      go_ret
      refine ⟨-1, rfl, ⟨fun h => by omega, fun h => ?_⟩, HF.out⟩
      have := HA.out
      rw [List.take_of_length_le (Nat.le_refl _)] at this
      exact absurd h this

set_option maxRecDepth 20000 in
set_option maxHeartbeats 2000000 in
theorem contains5 (w : World) {v : Value} {xs : List Key} {base : Nat} (ho : OwnRows w v 1 (strRows xs) base) (t : Key) :
    Calls Tryz.prog 5 #[v, .string ⟨t.toArray⟩] w fun e w' => ∃ rb, e = .returned (.bool rb) ∧ (rb = true ↔ t ∈ xs) ∧ Fr (fun _ => False) w w' := by
  have HC := Lib.hid (index12 w ho t)
  clear ho
  go_enter Tryz.func5, Tryz.ntmps5
  go_wp2_with (go_at_call 12; refine HC.out.mono ?_; rintro e w3 ⟨i, rfl, hi, hf3⟩)
  go_ret
  exact ⟨_, rfl, by simp, hf3⟩

end Go.Proofs.YteldfmgjbgedaaaGreat

namespace Go.Proofs.YteldfmgjbgedaaaGreat
open Go.RowKit Go.Maps

theorem ti62 : TI 62 (.agg #[.int .i64 0, .int .i64 0, .bool false, .slice none 0 0, .slice none 0 0, .slice none 0 0]) 6 96 := ⟨by kernel_rfl, rfl, by omega⟩
theorem ti37 : TI 37 (.agg #[.int .i64 0, .int .i64 0, .string ⟨#[]⟩, .string ⟨#[]⟩]) 4 48 := ⟨by kernel_rfl, rfl, by omega⟩
theorem ti106 : TI 106 (.agg #[.string ⟨#[]⟩, .int .i64 0, .int .i64 0]) 3 32 := ⟨by kernel_rfl, rfl, by omega⟩

/-- A transaction as it is played: its number, its snapshot, whether it is over; what it has read (key, version), the ranges, what it has written; the three slices. -/
structure PT where
  tx : Nat
  snap : Nat
  over : Bool
  rd : List (Key × Nat)
  rg : List (Key × Key)
  wr : List Key
  vr : Value
  vg : Value
  vw : Value

def PT.row (p : PT) : Array Value := #[.int .i64 (p.tx : Nat), .int .i64 (p.snap : Nat), .bool p.over, p.vr, p.vg, p.vw]
/-- A read, a write as an act of a history; a range as an act of a play; a version. -/
def rdA (tx : Nat) (x : Key × Nat) : Array Value := #[.int .i64 (tx : Nat), .bool false, .string ⟨x.1.toArray⟩, .int .i64 (x.2 : Nat)]
def wrA (tx : Nat) (x : Key) : Array Value := #[.int .i64 (tx : Nat), .bool true, .string ⟨x.toArray⟩, .int .i64 0]
def rgA (i : Nat) (x : Key × Key) : Array Value := #[.int .i64 2, .int .i64 (i : Nat), .string ⟨x.1.toArray⟩, .string ⟨x.2.toArray⟩]
def verA (x : Key × Nat × Nat) : Array Value := #[.string ⟨x.1.toArray⟩, .int .i64 (x.2.1 : Nat), .int .i64 (x.2.2 : Nat)]

/-- A play. -/
structure PS where
  l : List PT
  vs : List (Key × Nat × Nat)
  ord : List Nat
  keys : List Key
  vl : Value
  vv : Value
  vo : Value
  vk : Value

/-- A play in memory. (cls: 7 the struct, 8 the transactions, 9 the versions, 10 the order, 11 the keys; 12 + 3 i, 13 + 3 i, 14 + 3 i: the reads, ranges, writes of transaction i.) -/
structure Play (w : World) (cls : Nat → Nat) (pp m : Nat) (S : PS) : Prop where
  row : rowOf w pp = #[.pointer (some ⟨m, 0, none⟩), S.vl, S.vv, S.vo, S.vk]
  lp : live w pp = true
  cp : cls pp = 7
  hl : OwnRows w S.vl 6 (S.l.map PT.row) 0
  cl : ∀ k, S.vl.ownBlock = some k → cls k = 8
  hv : OwnRows w S.vv 3 (S.vs.map verA) 0
  cv : ∀ k, S.vv.ownBlock = some k → cls k = 9
  ho : OwnRows w S.vo 1 (natRows S.ord) 0
  co : ∀ k, S.vo.ownBlock = some k → cls k = 10
  hk : OwnRows w S.vk 1 (strRows S.keys) 0
  ck : ∀ k, S.vk.ownBlock = some k → cls k = 11
  hr : ∀ (i : Nat) (p : PT), S.l[i]? = some p → OwnRows w p.vr 4 (p.rd.map (rdA p.tx)) 0 ∧ ∀ k, p.vr.ownBlock = some k → cls k = 12 + 3 * i
  hg : ∀ (i : Nat) (p : PT), S.l[i]? = some p → OwnRows w p.vg 4 (p.rg.map (rgA i)) 0 ∧ ∀ k, p.vg.ownBlock = some k → cls k = 13 + 3 * i
  hw : ∀ (i : Nat) (p : PT), S.l[i]? = some p → OwnRows w p.vw 1 (strRows p.wr) 0 ∧ ∀ k, p.vw.ownBlock = some k → cls k = 14 + 3 * i

/-- The play's blocks are left alone. -/
theorem Play.fr {w w' : World} {cls cls' : Nat → Nat} {pp m : Nat} {S : PS} (h : Play w cls pp m S) {F : Nat → Prop} (hf : Fr F w w') (ho : ∀ k, live w k = true → F k → cls k < 7) (hc : ∀ k, k < w.heap.size → cls' k = cls k) : Play w' cls' pp m S := by
  have np : ¬ F pp := fun e => by have := ho pp h.lp e; rw [h.cp] at this; omega
  have key : ∀ {v : Value} {size : Nat} {xs : List (Array Value)} {c : Nat}, OwnRows w v size xs 0 → (∀ k, v.ownBlock = some k → cls k = c) → 7 ≤ c → OwnRows w' v size xs 0 ∧ ∀ k, v.ownBlock = some k → cls' k = c :=
    fun a b hc7 => ⟨a.keep hf (fun k hk e => by have := ho k (a.liv hk) e; rw [b k hk] at this; omega), fun k hk => (hc k (a.lt hk).2).trans (b k hk)⟩
  exact {
    row := by rw [hf.row (live_lt h.lp) np]; exact h.row
    lp := by rw [hf.liv (live_lt h.lp) np]; exact h.lp
    cp := (hc _ (live_lt h.lp)).trans h.cp
    hl := (key h.hl h.cl (by omega)).1
    cl := (key h.hl h.cl (by omega)).2
    hv := (key h.hv h.cv (by omega)).1
    cv := (key h.hv h.cv (by omega)).2
    ho := (key h.ho h.co (by omega)).1
    co := (key h.ho h.co (by omega)).2
    hk := (key h.hk h.ck (by omega)).1
    ck := (key h.hk h.ck (by omega)).2
    hr := fun i p hp => key (h.hr i p hp).1 (h.hr i p hp).2 (by omega)
    hg := fun i p hp => key (h.hg i p hp).1 (h.hg i p hp).2 (by omega)
    hw := fun i p hp => key (h.hw i p hp).1 (h.hw i p hp).2 (by omega) }

theorem Play.fr0 {w w' : World} {cls : Nat → Nat} {pp m : Nat} {S : PS} (h : Play w cls pp m S) (hf : Fr (fun _ => False) w w') : Play w' cls pp m S := h.fr hf (fun _ _ e => e.elim) (fun _ _ => rfl)

/-- A call of the manager's leaves the play alone. -/
theorem Play.mine {w w' : World} {cls cls' : Nat → Nat} {pp m : Nat} {S : PS} {P : MP} {q : Nat} {M : MS} (h : Play w cls pp m S) (hm : Mgr w cls P q M) (hf : Fr (Mine cls P) w w') (hc : ∀ k, k < w.heap.size → cls' k = cls k) : Play w' cls' pp m S :=
  h.fr hf (fun k hk e => by
    obtain ⟨a, b, c⟩ := hm.maps hk
    rcases e with ⟨-, e⟩ | e | e | e
    · omega
    · exact absurd e a
    · exact absurd e b
    · exact absurd e c) hc

/-- Who wrote the version of a key that a snapshot sees. -/
def seenL (vs : List (Key × Nat × Nat)) (key : Key) (sn : Nat) : Nat := vs.foldl (fun n v => if v.1 = key ∧ v.2.1 ≤ sn then v.2.2 else n) 0
/-- The commit number of a key's last version. -/
def lastL (vs : List (Key × Nat × Nat)) (key : Key) : Nat := vs.foldl (fun n v => if v.1 = key then v.2.1 else n) 0

theorem seenL_snoc (vs : List (Key × Nat × Nat)) (x : Key × Nat × Nat) (key : Key) (sn : Nat) : seenL (vs ++ [x]) key sn = if x.1 = key ∧ x.2.1 ≤ sn then x.2.2 else seenL vs key sn := by unfold seenL; rw [List.foldl_append]; rfl
theorem lastL_snoc (vs : List (Key × Nat × Nat)) (x : Key × Nat × Nat) (key : Key) : lastL (vs ++ [x]) key = if x.1 = key then x.2.1 else lastL vs key := by unfold lastL; rw [List.foldl_append]; rfl

section
variable {w : World} {cls : Nat → Nat} {pp m : Nat} {S : PS}
set_option maxRecDepth 20000 in
set_option maxHeartbeats 2000000 in
theorem Play.seen15 (h : Play w cls pp m S) (key : Key) (sn : Nat) :
    Calls Tryz.prog 15 #[.pointer (some ⟨pp, 0, none⟩), .string ⟨key.toArray⟩, .int .i64 (sn : Nat)] w fun e w' => e = .returned (.int .i64 (seenL S.vs key sn : Nat)) ∧ Fr (fun _ => False) w w' := by
  obtain ⟨a, c, hvv⟩ := h.hv.len
  have ho := h.hv
  have hrow := h.row
  have hlp := live_lt h.lp
  rw [hvv] at ho hrow
  have hn : S.vs.length ≤ 9223372036854775807 := by have := ho.max; rw [List.length_map] at this; exact this
  rw [List.length_map] at ho hrow
  have HO := Lib.hid ho
  clear ho h hvv
  go_enter Tryz.func15, Tryz.ntmps15
  go_wp2
  go_loopw [7, 15] (fun t7 t15 wr => ∃ k : Nat, t15 = .int .i64 (k : Nat) ∧ k ≤ S.vs.length ∧ t7 = .int .i64 (seenL (S.vs.take k) key sn : Nat) ∧ Fr (fun _ => False) w wr) (fun _ t15 _ => S.vs.length - (intOf t15).toNat)
  case atStart => exact ⟨0, rfl, Nat.zero_le _, rfl, Fr.refl _ _⟩
  case round =>
    obtain ⟨k, rfl, hk, rfl, hf⟩ := hrel
    have HF := Lib.hid hf
    by_cases hlt : k < S.vs.length
    · obtain ⟨g, rfl, hbg, hlg, -, hxc, hsz, hget⟩ := (HO.out.keep hf (fun _ _ e => e)).get (k := k) (by rw [List.length_map]; exact hlt)
      have hx : (S.vs.map verA)[k]'(by rw [List.length_map]; exact hlt) = verA S.vs[k] := by simp
      have c0 := hget 0 (by omega)
      have c1 := hget 1 (by omega)
      have c2 := hget 2 (by omega)
      rw [hx] at c0 c1 c2
      have HTK := Lib.hid (List.take_succ_eq_append_getElem hlt)
      have HLT := Lib.hid hlt
      generalize hq : S.vs[k] = u at c0 c1 c2 HTK
      replace c0 : (rowOf wr g)[k * 3]? = some (.string ⟨u.1.toArray⟩) := c0
      replace c1 : (rowOf wr g)[k * 3 + 1]? = some (.int .i64 (u.2.1 : Nat)) := c1
      replace c2 : (rowOf wr g)[k * 3 + 2]? = some (.int .i64 (u.2.2 : Nat)) := c2
      have hki : (k : Int) < (S.vs.length : Int) := by omega
      clear hget hx hq hf
      go_wp2
      all_goals
        refine ⟨⟨k + 1, by go_num, by have := HLT.out; omega, ?_, (HF.out.alloc _).setNew HF.out.size _⟩, by have := HLT.out; simp only [intOf]; omega⟩
        rw [HTK.out, seenL_snoc]
        first
          | rw [if_pos ⟨by assumption, by assumption⟩]
          | rw [if_neg (fun e => absurd e.2 (by assumption))]
          | rw [if_neg (fun e => absurd e.1 (by assumption))]
    · obtain rfl : k = S.vs.length := by omega
      clear hf
      go_wp2
      go_ret
      refine ⟨?_, HF.out⟩
      have e : S.vs.take S.vs.length = S.vs := List.take_of_length_le (Nat.le_refl _)
      rw [e]
      rfl
set_option maxRecDepth 20000 in
set_option maxHeartbeats 2000000 in
theorem Play.last18 (h : Play w cls pp m S) (key : Key) :
    Calls Tryz.prog 18 #[.pointer (some ⟨pp, 0, none⟩), .string ⟨key.toArray⟩] w fun e w' => e = .returned (.int .i64 (lastL S.vs key : Nat)) ∧ Fr (fun _ => False) w w' := by
  obtain ⟨a, c, hvv⟩ := h.hv.len
  have ho := h.hv
  have hrow := h.row
  have hlp := live_lt h.lp
  rw [hvv] at ho hrow
  have hn : S.vs.length ≤ 9223372036854775807 := by have := ho.max; rw [List.length_map] at this; exact this
  rw [List.length_map] at ho hrow
  have HO := Lib.hid ho
  clear ho h hvv
  go_enter Tryz.func18, Tryz.ntmps18
  go_wp2
  go_loopw [5, 13] (fun t7 t15 wr => ∃ k : Nat, t15 = .int .i64 (k : Nat) ∧ k ≤ S.vs.length ∧ t7 = .int .i64 (lastL (S.vs.take k) key : Nat) ∧ Fr (fun _ => False) w wr) (fun _ t15 _ => S.vs.length - (intOf t15).toNat)
  case atStart => exact ⟨0, rfl, Nat.zero_le _, rfl, Fr.refl _ _⟩
  case round =>
    obtain ⟨k, rfl, hk, rfl, hf⟩ := hrel
    have HF := Lib.hid hf
    by_cases hlt : k < S.vs.length
    · obtain ⟨g, rfl, hbg, hlg, -, hxc, hsz, hget⟩ := (HO.out.keep hf (fun _ _ e => e)).get (k := k) (by rw [List.length_map]; exact hlt)
      have hx : (S.vs.map verA)[k]'(by rw [List.length_map]; exact hlt) = verA S.vs[k] := by simp
      have c0 := hget 0 (by omega)
      have c1 := hget 1 (by omega)
      have c2 := hget 2 (by omega)
      rw [hx] at c0 c1 c2
      have HTK := Lib.hid (List.take_succ_eq_append_getElem hlt)
      have HLT := Lib.hid hlt
      generalize hq : S.vs[k] = u at c0 c1 c2 HTK
      replace c0 : (rowOf wr g)[k * 3]? = some (.string ⟨u.1.toArray⟩) := c0
      replace c1 : (rowOf wr g)[k * 3 + 1]? = some (.int .i64 (u.2.1 : Nat)) := c1
      replace c2 : (rowOf wr g)[k * 3 + 2]? = some (.int .i64 (u.2.2 : Nat)) := c2
      have hki : (k : Int) < (S.vs.length : Int) := by omega
      clear hget hx hq hf
      go_wp2
      all_goals
        refine ⟨⟨k + 1, by go_num, by have := HLT.out; omega, ?_, (HF.out.alloc _).setNew HF.out.size _⟩, by have := HLT.out; simp only [intOf]; omega⟩
        rw [HTK.out, lastL_snoc]
        first
          | rw [if_pos (eq_of_beq (by assumption))]
          | rw [if_neg (ne_of_beq_false (by assumption))]
    · obtain rfl : k = S.vs.length := by omega
      clear hf
      go_wp2
      go_ret
      refine ⟨?_, HF.out⟩
      have e : S.vs.take S.vs.length = S.vs := List.take_of_length_le (Nat.le_refl _)
      rw [e]
      rfl
end
end Go.Proofs.YteldfmgjbgedaaaGreat

namespace Go.Proofs.YteldfmgjbgedaaaGreat
open Go.RowKit Go.Maps

/-- An act of a play as a value. -/
def actV (k i : Int) (x y : Key) : Value := .agg #[.int .i64 k, .int .i64 i, .string ⟨x.toArray⟩, .string ⟨y.toArray⟩]
def actC (k i : Int) (x y : Key) : Array Value := #[.int .i64 k, .int .i64 i, .string ⟨x.toArray⟩, .string ⟨y.toArray⟩]

/-- A transaction's cells in the play. -/
theorem Play.cells {w : World} {cls : Nat → Nat} {pp m : Nat} {S : PS} (h : Play w cls pp m S) {n : Nat} {p : PT} (hp : S.l[n]? = some p) :
    ∃ g c, S.vl = .slice (some ⟨g, 0, none⟩) S.l.length c ∧ live w g = true ∧ cls g = 8 ∧ n < S.l.length ∧ n * 6 + 6 ≤ (rowOf w g).size ∧ (rowOf w g)[n * 6]? = some (.int .i64 (p.tx : Nat)) ∧ (rowOf w g)[n * 6 + 1]? = some (.int .i64 (p.snap : Nat)) ∧ (rowOf w g)[n * 6 + 2]? = some (.bool p.over) ∧
      (rowOf w g)[n * 6 + 3]? = some p.vr ∧ (rowOf w g)[n * 6 + 4]? = some p.vg ∧ (rowOf w g)[n * 6 + 5]? = some p.vw := by
  obtain ⟨hn, e⟩ := List.getElem?_eq_some_iff.1 hp
  obtain ⟨a, c, hv⟩ := h.hl.len
  have ho := h.hl
  rw [hv] at ho
  obtain ⟨g, rfl, -, hlg, -, -, hsz, hget⟩ := ho.get (k := n) (by rw [List.length_map]; exact hn)
  have hx : (S.l.map PT.row)[n]'(by rw [List.length_map]; exact hn) = p.row := by simp [e]
  rw [hx] at hget
  rw [List.length_map] at hv
  exact ⟨g, c, hv, hlg, h.cl g (by rw [hv]; rfl), hn, hsz, hget 0 (by omega), hget 1 (by omega), hget 2 (by omega), hget 3 (by omega), hget 4 (by omega), hget 5 (by omega)⟩

section
variable {w : World} {cls : Nat → Nat} {pp m : Nat} {S : PS}
set_option maxRecDepth 20000 in
set_option maxHeartbeats 2000000 in
theorem Play.does_skip (h : Play w cls pp m S) (k i : Int) (x y : Key) (hk : k ≠ 0) (hi : i < 0 ∨ (S.l.length : Int) ≤ i ∨ ∃ (n : Nat) (p : PT), i = (n : Nat) ∧ S.l[n]? = some p ∧ p.over = true) :
    Calls Tryz.prog 6 #[.pointer (some ⟨pp, 0, none⟩), actV k i x y] w fun e w' => e = .returned (.bool true) ∧ Fr (fun _ => False) w w' := by
  have hrow := h.row
  have hlp := live_lt h.lp
  obtain ⟨a, c, hvl⟩ := h.hl.len
  rw [List.length_map] at hvl
  have hbox : rowOf (w.alloc (.cells (actC k i x y) 37)) w.heap.size = actC k i x y := rowOf_alloc_at _ _ _ _ _ rfl
  have hkb : (k == 0) = false := by simp [hk]
  have hkd : decide (k = 0) = false := by simp [hk]
  rw [hvl] at hrow
  unfold actC at hbox
  unfold actV
  by_cases h0 : i < 0
  · have hd : decide (i < 0) = true := decide_eq_true h0
    clear hi h
    go_enter Tryz.func6, Tryz.ntmps6
    go_wp2_with fail
    go_region
    all_goals
      go_wp2
      go_ret
      exact ⟨rfl, ((Fr.refl (fun _ => False) w).alloc _).drew⟩
  · have hd : decide (i < 0) = false := decide_eq_false h0
    by_cases h1 : (S.l.length : Int) ≤ i
    · have hd1 : decide ((S.l.length : Int) ≤ i) = true := decide_eq_true h1
      clear hi h
      go_enter Tryz.func6, Tryz.ntmps6
      go_wp2_with fail
      go_region
      all_goals
        go_wp2
        go_ret
        exact ⟨rfl, ((Fr.refl (fun _ => False) w).alloc _).drew⟩
    · obtain ⟨n, p, rfl, hp, hov⟩ := hi.resolve_left h0 |>.resolve_left h1
      obtain ⟨g, c2, hv2, hlg, -, hn, hsz, -, -, c2', -, -, -⟩ := h.cells hp
      rw [hov] at c2'
      rw [hvl] at hv2
      injection hv2 with e1 e2 e3
      subst e1 e3
      have hd1 : decide ((S.l.length : Int) ≤ (n : Int)) = false := decide_eq_false h1
      have hd2 : decide (S.l.length ≤ n) = false := decide_eq_false (by omega)
      have hni : (n : Int) < (S.l.length : Int) := by omega
      have c3 : (rowOf (w.alloc (.cells (actC k n x y) 37)) g)[n * 6 + 2]? = some (.bool true) := by rw [rowOf_alloc_lt _ _ _ (live_lt hlg)]; exact c2'
      unfold actC at c3
      clear h
      go_enter Tryz.func6, Tryz.ntmps6
      go_wp2_with fail
      go_region
      all_goals
        go_wp2
        go_ret
        exact ⟨rfl, ((Fr.refl (fun _ => False) w).alloc _).drew⟩
end
end Go.Proofs.YteldfmgjbgedaaaGreat
