/-
  slices.Clone and maps.Clone of notes.
  slices.DeleteFunc of notes.
-/
import Derived.Test.YteldfmgjbgedaaaGreatMqr
import Derived.Laws.Externs
namespace Go.Proofs.YteldfmgjbgedaaaGreat
open Go.RowKit Go.Maps

section
variable (w : World)

/-- append of m > 0 elements to nil, or to a slice without room: a new row. -/
theorem run_append_fresh (t ty e : TypeId) (z : Value) (size bytes : Nat) (ht : Tryz.prog.underlying t = some (.slice e)) (hti : TI e z size bytes)
    (s : Option Addr) (hs : s = none ∨ ∃ gs, s = some ⟨gs, 0, none⟩ ∧ live w gs = true) (gx offx m c : Nat) (hm : 0 < m) (hx : offx + m * size ≤ (rowOf w gx).size) 
    (h63 : m ≤ maxLen) (h48 : m * bytes ≤ 281474976710656) :
    ∃ cap cur, m ≤ cap ∧ cap ≤ maxLen ∧ cur.size = cap * size ∧ cut cur 0 (m * size) = cut (rowOf w gx) offx (m * size) ∧ cur = cut (rowOf w gx) offx (m * size) ++ Builtin.zeroCells z.cells (cap - m) ∧
      (Builtin.append_ #[t, t] ty #[.slice s 0 0, .slice (some ⟨gx, offx, none⟩) m c]).run Tryz.prog w = .ok (.slice (some ⟨w.heap.size, 0, none⟩) m cap) ((w.alloc (.cells cur e)).drew) := by
  obtain ⟨hi0, hzs, hsz⟩ := hti
  obtain ⟨i, hi, hz, hsize, hby⟩ := info_parts hi0
  have hnews : ∀ j u, (cut (rowOf w gx) offx (m * size)).toList[j]? = some u → w.cell? ((⟨gx, offx, none⟩ : Addr).add j) = some u := by
    intro j u hu
    have hj : j < m * size := by
      have := (List.getElem?_eq_some_iff.1 hu).1
      simpa [cut_size hx] using this
    rw [Addr.add_lit, cell?_row, ← cut_get hx j hj]
    simpa using hu
  have hl : (cut (rowOf w gx) offx (m * size)).toList.length = m * i.size := by rw [hsize]; simp [cut_size hx]
  have hcap := grownCap_ge w m 0 e
  have hcm := grownCap_le_maxLen w m 0 e h63
  refine ⟨grownCap w m 0 e, (cut (rowOf w gx) offx (m * size)) ++ Builtin.zeroCells z.cells (grownCap w m 0 e - m), hcap, hcm, ?_, ?_, rfl, ?_⟩
  · rw [Array.size_append, cut_size hx, size_zeroCells, hzs, ← Nat.add_mul, Nat.add_sub_cancel' hcap]
  · apply cut_ext (cut_size hx)
    · rw [Array.size_append, cut_size hx]; omega
    · intro q hq
      rw [Nat.zero_add, Array.getElem?_append_left (by rw [cut_size hx]; exact hq)]
  · rcases hs with rfl | ⟨gs, rfl, hgs⟩
    · have hr := run_append_nil (P := Tryz.prog) w t ty e i z ht hi hz ⟨gx, offx, none⟩ m c _ hl hnews hm (by simp only [maxLen] at h63; omega) (by rw [hby]; exact h48)
      rw [hr]
      simp [World.alloc_drew]
    · have hr := run_append_grow (P := Tryz.prog) w t ty e i z ht hi hz ⟨gs, 0, none⟩ 0 0 [] (by simp) (by simp) ⟨gx, offx, none⟩ m c _ hl hnews (by omega) (by simp only [maxLen] at h63; omega)
        (by rw [Nat.zero_add, nextslicecap_zero hm, hby]; exact h48)
      simp only [Nat.zero_add] at hr
      rw [hr]
      simp [World.alloc_drew]

/-- The same as an arm of the walk. -/
theorem wpList_append_fresh {w : World} {ops : Array Oper} {rest : List Oper} {o : Oper} {a : Act} {Q : Exit → Act → World → Prop} (hgd : o.guard = none) (s x : Operand) (t : TypeId)
    (ho : o.op = .call { callee := .builtin .append, args := #[s, x], argTypes := #[t, t] }) (e : TypeId) (z : Value) (size bytes : Nat) (ht : Tryz.prog.underlying t = some (.slice e)) (hti : TI e z size bytes)
    (sa : Option Addr) (gx offx m c : Nat) (hs0 : a.eval s = .slice sa 0 0) (hx0 : a.eval x = .slice (some ⟨gx, offx, none⟩) m c)
    (hs : sa = none ∨ ∃ gs, sa = some ⟨gs, 0, none⟩ ∧ live w gs = true) (hm : 0 < m) (hx : offx + m * size ≤ (rowOf w gx).size)
    (h63 : m ≤ maxLen) (h48 : m * bytes ≤ 281474976710656)
    (h : ∀ cap cur, m ≤ cap → cap ≤ maxLen → cur.size = cap * size → RowKit.Hid (cut cur 0 (m * size) = cut (rowOf w gx) offx (m * size)) → RowKit.Hid (cur = cut (rowOf w gx) offx (m * size) ++ Builtin.zeroCells z.cells (cap - m)) → wpList Tryz.prog ops Q rest (a.put o.dst (.slice (some ⟨w.heap.size, 0, none⟩) m cap)) ((w.alloc (.cells cur e)).drew)) :
    wpList Tryz.prog ops Q (o :: rest) a w := by
  obtain ⟨cap, cur, a1, a2, a3, a4, a5, hrun⟩ := run_append_fresh w t o.type e z size bytes ht hti sa hs gx offx m c hm hx h63 h48
  refine wpList_plain hgd fun K hK => ?_
  unfold Oper.wp
  simp [execOp, ho, resolve, invoke, builtin, hs0, hx0, hrun, Result.andThen]
  exact hK _ _ (h cap cur a1 a2 a3 a4 a5)

end


@[go_sem] theorem run_eqlNil117 (w : World) (a : Option Addr) (n c : Nat) : (binOp .eql 117 (.slice a n c) (.slice none 0 0)).run Tryz.prog w = .ok (.bool a.isNone) w :=
  Lib.run_eql_slice_nil w 117 104 a n c 0 0 Tryz.underlying117

set_option maxRecDepth 20000 in
set_option maxHeartbeats 2000000 in
theorem clone92_nil (w : World) : Calls Tryz.prog 92 #[.slice none 0 0] w fun e w' => e = .returned (.slice none 0 0) ∧ w = w' := by
  go_enter Tryz.func92, Tryz.ntmps92
  go_wp2
  go_ret
  exact ⟨rfl, rfl⟩

set_option maxRecDepth 20000 in
set_option maxHeartbeats 2000000 in
theorem clone92_some (w : World) (g n c : Nat) (hn : 0 < n) (hx : n * 4 ≤ (rowOf w g).size) (hb : n ≤ 65536) :
    Calls Tryz.prog 92 #[.slice (some ⟨g, 0, none⟩) n c] w fun e w' => ∃ g' cap, e = .returned (.slice (some ⟨g', 0, none⟩) n cap) ∧ n ≤ cap ∧ cap ≤ maxLen ∧ live w' g' = true ∧ (rowOf w' g').size = cap * 4 ∧ cut (rowOf w' g') 0 (n * 4) = cut (rowOf w g) 0 (n * 4) ∧ w.heap.size ≤ g' ∧ Fr (fun _ => False) w w' := by
  have hzz : w.heap.size < w.heap.size + 1 := by omega
  have hgl : g < w.heap.size := by
    by_cases h : g < w.heap.size
    · exact h
    · exfalso
      unfold rowOf at hx
      rw [Array.getElem?_eq_none (by omega)] at hx
      simp at hx; omega
  have hx' : 0 + n * 4 ≤ (rowOf (w.alloc (.cells #[] 104)) g).size := by rw [rowOf_alloc_lt _ _ _ hgl]; omega
  have hr := Lib.hid (rowOf_alloc_lt w (.cells #[] 104) g hgl)
  go_enter Tryz.func92, Tryz.ntmps92
  go_wp2_with (at_builtin; refine wpList_append_fresh rfl (.tmp 5) (.tmp 6) 117 rfl 104 _ 4 56 Tryz.underlying117 ti104 (some ⟨w.heap.size, 0, none⟩) g 0 n c rfl rfl (.inr ⟨_, rfl, live_alloc_at _ _ _ _ rfl⟩) hn hx' (by simp only [maxLen]; omega) (by omega) ?_; intro cap cur c1 c2 c3 c4 c5)
  go_ret
  refine ⟨w.heap.size + 1, cap, by simp, c1, c2, by simp [go_sem], by simp [go_sem, c3], ?_, by omega, ((Fr.refl (fun _ => False) w).alloc _).alloc _ |>.drew⟩
  have := c4.out
  rw [hr.out] at this
  rw [← this]
  simp [go_sem]

theorem clone92_any {w : World} {v : Value} {L : List RdT} {base : Nat} (h : OwnRows w v 4 (rdRows L) base) (hb : L.length ≤ 65536) :
    Calls Tryz.prog 92 #[v] w fun e w' => ∃ v', e = .returned v' ∧ OwnRows w' v' 4 (rdRows L) w.heap.size ∧ Fr (fun _ => False) w w' := by
  rcases h with ⟨rfl, h⟩ | ⟨g, cap, rfl, h1, h2, h3, h4, h5, h6⟩
  · refine (clone92_nil w).mono ?_
    rintro e w' ⟨rfl, rfl⟩
    exact ⟨_, rfl, .inl ⟨rfl, h⟩, Fr.refl _ _⟩
  · have hl := rdRows_length L
    have hm := Nat.mul_le_mul_right 4 h3.1
    refine (clone92_some w g (rdRows L).length cap h3.2 (by omega) (by omega)).mono ?_
    rintro e w' ⟨g', cap', rfl, a1, a2, a3, a4, a5, a6, a7⟩
    refine ⟨_, rfl, .inr ⟨g', cap', rfl, a6, a3, ⟨a1, h3.2⟩, a2, a4, fun i hi => ?_⟩, a7⟩
    rw [← h6 i hi]
    have hm' := Nat.mul_le_mul_right 4 a1
    have hi4 : i * 4 + 4 ≤ (rdRows L).length * 4 := by have := Nat.mul_le_mul_right 4 hi; rw [Nat.succ_mul] at this; exact this
    refine cut_ext (cut_size (by omega)) (by omega) (fun j hj => ?_)
    rw [cut_get (by omega) j hj]
    have e1 := cut_get (cur := rowOf w' g') (off := 0) (n := (rdRows L).length * 4) (by omega) (i * 4 + j) (by omega)
    have e2 := cut_get (cur := rowOf w g) (off := 0) (n := (rdRows L).length * 4) (by omega) (i * 4 + j) (by omega)
    rw [Nat.zero_add] at e1 e2
    rw [← e1, ← e2, a5]

theorem run_clone123 {w : World} {r : Nat} {es : Array MapEntry} {clock : Nat} (t : TypeId) (hb : w.heap[r]? = some (.map es clock)) :
    (Extern.MapsClone.clone #[.iface t (.map (some r))]).run Tryz.prog w = .ok (.iface t (.map (some w.heap.size))) (w.alloc (.map es clock)) := by
  obtain ⟨s, e⟩ : ∃ s, Extern.MapsClone.clone #[.iface t (.map (some r))] = (getObj r >>= fun o => match o with
      | .map entries clock => (newObj (.map entries clock) >>= fun n => pure (.iface t (.map (some n))))
      | _ => stuck s) := ⟨_, rfl⟩
  rw [e]
  simp [MapKept.run_getObj_map hb, Result.andThen, go_sem]
theorem run_typeAssert89 (w : World) (v : Value) : (Instr.typeAssert (.iface 89 v) 20 89 false).run Tryz.prog w = .ok v w := by
  simp [Instr.typeAssert, run_underlying Tryz.underlying89, go_sem, Result.andThen]

set_option maxRecDepth 20000 in
set_option maxHeartbeats 2000000 in
theorem clone94 (w : World) (b : Nat) {es : Array MapEntry} {clock : Nat} (hb : w.heap[b]? = some (.map es clock)) : Calls Tryz.prog 94 #[.map (some b)] w fun e w' => e = .returned (.map (some w.heap.size)) ∧ w' = w.alloc (.map es clock) := by
  go_enter Tryz.func94, Tryz.ntmps94
  go_wp2
  rw [run_callFunc_extern Tryz.func123 (by kernel_rfl) (by kernel_rfl) (by kernel_rfl) (e := Extern.MapsClone.clone) (by kernel_rfl), run_clone123 89 hb]
  simp only [Result.andThen]
  rw [Oper.upon_value]
  go_wp2
  rw [run_typeAssert89]
  simp only [Result.andThen]
  rw [Oper.upon_value]
  go_wp2
  go_ret
  exact ⟨rfl, rfl⟩

theorem clone94_any {w : World} {b n : Nat} {f : Value → Option Value} (h : MapF w 138 b n f) : Calls Tryz.prog 94 #[.map (some b)] w fun e w' => e = .returned (.map (some w.heap.size)) ∧ MapF w' 138 w.heap.size n f ∧ Fr (fun _ => False) w w' := by
  obtain ⟨D, ⟨es, clock, hb, r⟩, F⟩ := h
  refine (clone94 w b hb).mono ?_
  rintro e w' ⟨rfl, rfl⟩
  exact ⟨rfl, ⟨D, ⟨es, clock, (MapKept.heap_alloc w _).1, r⟩, F⟩, (Fr.refl _ _).alloc _⟩

end Go.Proofs.YteldfmgjbgedaaaGreat

namespace Go.Proofs.YteldfmgjbgedaaaGreat
open Go.RowKit Go.Maps

def set4 (R : Array Value) (o : Nat) (a b c d : Value) : Array Value := (((R.setIfInBounds o a).setIfInBounds (o + 1) b).setIfInBounds (o + 2) c).setIfInBounds (o + 3) d
theorem set4_size (R : Array Value) (o : Nat) (a b c d : Value) : (set4 R o a b c d).size = R.size := by simp [set4]
theorem cut_set4 (R : Array Value) (o : Nat) (a b c d : Value) (h : o + 4 ≤ R.size) : cut (set4 R o a b c d) o 4 = #[a, b, c, d] := by
  refine cut_ext (by rfl) (by rw [set4_size]; exact h) (fun i hi => ?_)
  have h0 : o < R.size := by omega
  have h1 : o + 1 < R.size := by omega
  have h2 : o + 2 < R.size := by omega
  have h3 : o + 3 < R.size := by omega
  unfold set4
  match i, hi with
  | 0, _ => simp [h0]
  | 1, _ => simp [h1]
  | 2, _ => simp [h2]
  | 3, _ => simp [h3]
theorem cut_set4_other (R : Array Value) (o k : Nat) (a b c d : Value) (hk : k + 4 ≤ R.size) (hd : k + 4 ≤ o ∨ o + 4 ≤ k) : cut (set4 R o a b c d) k 4 = cut R k 4 := by
  refine cut_ext (cut_size hk) (by rw [set4_size]; exact hk) (fun i hi => ?_)
  rw [cut_get hk i hi]
  unfold set4
  simp only [Array.getElem?_setIfInBounds]
  rw [if_neg (by omega), if_neg (by omega), if_neg (by omega), if_neg (by omega)]

/-- clear of a slice's tail. -/
theorem run_clear117 {w : World} {g o m c : Nat} (hl : live w g = true) (hm : 0 < m) (hs : o + m * 4 ≤ (rowOf w g).size) : ∃ w', (∀ ty, (Builtin.clear_ #[117] ty #[.slice (some ⟨g, o, none⟩) m c]).run Tryz.prog w = .ok (.tuple #[]) w') ∧
    live w' g = true ∧ (rowOf w' g).size = (rowOf w g).size ∧ (∀ k, k + 4 ≤ o → cut (rowOf w' g) k 4 = cut (rowOf w g) k 4) ∧ Fr (fun k => k = g) w w' := by
  obtain ⟨t, hg⟩ := live_obj hl
  obtain ⟨hi0, hzs, hsz⟩ := ti104
  obtain ⟨i, hi, hz, hsize, hby⟩ := info_parts hi0
  have hzv : (zeroValue 104).run Tryz.prog w = .ok (.agg #[.string ⟨#[]⟩, .int .i64 0, .string ⟨#[]⟩, .string ⟨#[]⟩]) w := by kernel_rfl
  obtain ⟨m', rfl⟩ : ∃ m', m = m' + 1 := ⟨m - 1, by omega⟩
  obtain ⟨Z, hZ⟩ : ∃ Z, Z = Builtin.zeroCells (#[.string ⟨#[]⟩, .int .i64 0, .string ⟨#[]⟩, .string ⟨#[]⟩] : Array Value) (m' + 1) := ⟨_, rfl⟩
  have hzl : Z.size = (m' + 1) * 4 := by rw [hZ, size_zeroCells]; rfl
  have hon : ∀ v ∈ Z, v.oneCell' = true := by
    intro v hv
    rw [hZ] at hv
    unfold Builtin.zeroCells at hv
    obtain ⟨i, -, rfl⟩ := Array.mem_map.1 hv
    have h4 : i % 4 = 0 ∨ i % 4 = 1 ∨ i % 4 = 2 ∨ i % 4 = 3 := by omega
    show ((#[.string ⟨#[]⟩, .int .i64 0, .string ⟨#[]⟩, .string ⟨#[]⟩] : Array Value)[i % 4]!).oneCell' = true
    rcases h4 with h | h | h | h <;> rw [h] <;> rfl
  have hst := run_storeCells_row (P := Tryz.prog) w g o Z hl (by rw [hzl]; exact hs) hon
  refine ⟨w.setRow g (blit (rowOf w g) o Z), fun ty => ?_, ?_, ?_, ?_, (Fr.refl _ w).setRow g _ (fun _ => rfl)⟩
  · simp only [Builtin.clear_]
    simp [run_underlying Tryz.underlying117, hzv, Value.cells, ← hZ, hst, Result.andThen]
  · rw [live_setRow]; exact hl
  · rw [rowOf_setRow_same _ _ _ hl, blit_size (by rw [hzl]; exact hs)]
  · intro k hk
    rw [rowOf_setRow_same _ _ _ hl]
    exact cut_blit_other (by rw [hzl]; exact hs) (by omega) (.inl hk)

set_option maxRecDepth 20000 in
set_option maxHeartbeats 4000000 in
theorem deleteFunc91 (w : World) {gv n cap base : Nat} {L : List RdT} (ho : OwnRows w (.slice (some ⟨gv, 0, none⟩) n cap) 4 (rdRows L) base) {fg : Nat} {cb : Array Value} {p : RdT → Bool} (eg : ∀ args w, (callFunc fg args).run Tryz.prog w = .ok (.enter fg args) w)
    (hp : ∀ W q, Fr (fun k => k = gv) w W → q ∈ L → Calls Tryz.prog fg (#[rdV q] ++ cb) W fun e w' => e = .returned (.bool (p q)) ∧ Fr (fun _ => False) W w') :
    Calls Tryz.prog 91 #[.slice (some ⟨gv, 0, none⟩) n cap, .func (.func fg) #[] cb] w fun e w' => ∃ m : Nat, e = .returned (.slice (some ⟨gv, 0, none⟩) m cap) ∧ m = (L.filter (fun y => !p y)).length ∧ live w' gv = true ∧ (rowOf w' gv).size = cap * 4 ∧
      (∀ i (_h : i < m) (h2 : i < (L.filter (fun y => !p y)).length), cut (rowOf w' gv) (i * 4) 4 = rdC (L.filter (fun y => !p y))[i]) ∧ Fr (fun k => k = gv) w w' := by
  obtain ⟨a, c, e⟩ := ho.len
  injection e with e1 e2 e3
  subst e1 e2 e3
  rw [rdRows_length] at ho ⊢
  have HIX := Lib.hid (indexFuncRd w ho eg (p := p) (fun W q hf hq => by have := hp W q (hf.mono (fun _ _ h => h.elim)) hq; unfold rdV at this; exact this))
  have HO := Lib.hid ho
  have HP := Lib.hid hp
  have hgl := ho.liv (k := gv) rfl
  have hgs := live_lt hgl
  have hn : L.length ≤ 9223372036854775807 := by have := ho.max; rw [rdRows_length] at this; exact this
  clear ho hp
  go_enter Tryz.func91, Tryz.ntmps91
  go_wp2_with fail
  refine HIX.out.mono ?_
  rintro e w1 ⟨i, rfl, hi, hf1⟩
  rcases hi with ⟨rfl, hall⟩ | ⟨k0, hk0, rfl, hpk, hbef⟩
  · have HALL := Lib.hid hall
    have HF1 := Lib.hid hf1
    clear hall hf1
    go_wp2
    go_ret
    have hfl : L.filter (fun y => !p y) = L := List.filter_eq_self.2 (fun y hy => by rw [HALL.out y hy]; rfl)
    have ho1 := HO.out.keep HF1.out (fun _ _ e => e)
    rcases ho1 with ⟨h, _⟩ | ⟨g, cap', e, h1, h2, h3, h4, h5, h6⟩
    · cases h
    · injection e with e1 e2 e3
      injection e1 with e1
      injection e1 with e1
      subst e1 e3
      rw [hfl]
      exact ⟨_, rfl, rfl, h2, h5, fun i h h2 => by rw [h6 i (by rw [rdRows_length]; exact h2)]; simp [rdRows], HF1.out.mono (fun _ _ h => h.elim)⟩
  · have HPK := Lib.hid hpk
    have HBEF := Lib.hid hbef
    have HF1 := Lib.hid hf1
    have ho1 := HO.out.keep hf1 (fun _ _ e => e)
    have HO1 := Lib.hid ho1
    clear hpk hbef hf1
    have hi1 : ((k0 : Int) == -1) = false := by rw [beq_eq_false_iff_ne]; omega
    go_wp2_with fail
    go_loopw [5, 6] (fun t5 t6 wr => ∃ (iN jN : Nat), t5 = .int .i64 (iN : Nat) ∧ t6 = .int .i64 (jN : Nat) ∧ iN = ((L.take jN).filter (fun y => !p y)).length ∧ iN < jN ∧ jN ≤ L.length ∧ live wr gv = true ∧ (rowOf wr gv).size = cap * 4 ∧
      (∀ x (hx : x < ((L.take jN).filter (fun y => !p y)).length), cut (rowOf wr gv) (x * 4) 4 = rdC ((L.take jN).filter (fun y => !p y))[x]) ∧ (∀ x (hx : x < L.length), jN ≤ x → cut (rowOf wr gv) (x * 4) 4 = rdC L[x]) ∧ Fr (fun k => k = gv) w wr) (fun _ t6 _ => L.length - (intOf t6).toNat)
    case atStart =>
      have hk : (L.take (k0 + 1)).filter (fun y => !p y) = L.take k0 := by
        rw [List.take_succ_eq_append_getElem hk0, List.filter_append]
        have e1 : (L.take k0).filter (fun y => !p y) = L.take k0 := List.filter_eq_self.2 (fun y hy => by
          obtain ⟨j, hj, rfl⟩ := List.getElem_of_mem hy
          have hj2 : j < k0 := by rw [List.length_take] at hj; omega
          rw [List.getElem_take, HBEF.out j hj2]; rfl)
        rw [e1]
        simp [HPK.out]
      obtain ⟨g, e, hbg, hlg, -, hxc, hsz, -⟩ := HO1.out.get (k := k0) (by rw [rdRows_length]; exact hk0)
      injection e with e
      injection e with e
      subst e
      have hszz : (rowOf w1 gv).size = cap * 4 := by
        rcases HO1.out with ⟨h, _⟩ | ⟨g, cap', e, h1, h2, h3, h4, h5, h6⟩
        · cases h
        · injection e with e1 e2 e3
          injection e1 with e1
          injection e1 with e1
          subst e1 e3; exact h5
      have hcut : ∀ x (hx : x < L.length), cut (rowOf w1 gv) (x * 4) 4 = rdC L[x] := fun x hx => by
        rcases HO1.out with ⟨h, _⟩ | ⟨g, cap', e, h1, h2, h3, h4, h5, h6⟩
        · cases h
        · injection e with e1 e2 e3
          injection e1 with e1
          injection e1 with e1
          subst e1
          rw [h6 x (by rw [rdRows_length]; exact hx)]; simp [rdRows]
      refine ⟨k0, k0 + 1, rfl, by go_num, ?_, by omega, by omega, hlg, hszz, fun x hx => ?_, fun x hx _ => hcut x hx, HF1.out.mono (fun _ _ h => h.elim)⟩
      · rw [hk, List.length_take]; omega
      · have hx2 : x < L.length := by rw [hk, List.length_take] at hx; omega
        rw [hcut x hx2]
        congr 1
        have : ∀ (l : List RdT) (h : x < l.length), l = L.take k0 → l[x] = L[x] := fun l h e => by subst e; simp
        exact (this _ hx hk).symm
    case round =>
      obtain ⟨iN, jN, rfl, rfl, hiN, hij, hjl, hlv, hsz, hA, hB, hf⟩ := hrel
      have HA := Lib.hid hA
      have HB := Lib.hid hB
      have HF := Lib.hid hf
      have HIN := Lib.hid hiN
      have hsz' := Lib.hid hsz
      have hcapL : L.length ≤ cap := by
        rcases HO.out with ⟨h, _⟩ | ⟨g, cap', e, h1, h2, h3, h4, h5, h6⟩
        · cases h
        · injection e with e1 e2 e3
          subst e3; rw [rdRows_length] at h3; exact h3.1
      clear hA hiN
      by_cases hlt : jN < L.length
      · have hq : ∀ i, i < 4 → (rowOf wr gv)[jN * 4 + i]? = (rdC L[jN])[i]? := fun i hi => by
          have := hB jN hlt (Nat.le_refl _)
          rw [← this, cut_get (by rw [hsz]; have := Nat.mul_le_mul_right 4 (Nat.le_trans hlt hcapL); omega) i hi]
        have c0 := hq 0 (by omega)
        have c1 := hq 1 (by omega)
        have c2 := hq 2 (by omega)
        have c3 := hq 3 (by omega)
        have HM := Lib.hid (List.getElem_mem hlt)
        have HTK := Lib.hid (List.take_succ_eq_append_getElem hlt)
        generalize hqq : L[jN] = y at c0 c1 c2 c3 HM HTK
        replace c0 : (rowOf wr gv)[jN * 4]? = some (.string ⟨#[116]⟩) := c0
        replace c1 : (rowOf wr gv)[jN * 4 + 1]? = some (.int .i64 y.kind) := c1
        replace c2 : (rowOf wr gv)[jN * 4 + 2]? = some (.string ⟨y.lo.toArray⟩) := c2
        replace c3 : (rowOf wr gv)[jN * 4 + 3]? = some (.string ⟨y.hi.toArray⟩) := c3
        have HQQ := Lib.hid hqq
        have FA : Fr (fun _ => False) wr ((wr.alloc (.cells #[.string ⟨#[]⟩, .int .i64 0, .string ⟨#[]⟩, .string ⟨#[]⟩] 104)).setRow wr.heap.size #[.string ⟨#[116]⟩, .int .i64 y.kind, .string ⟨y.lo.toArray⟩, .string ⟨y.hi.toArray⟩]) := ((Fr.refl (fun _ => False) wr).alloc _).setNew (Nat.le_refl _) _
        have HC := Lib.hid (HP.out _ y (hf.trans FA (fun _ _ h => h.elim)) HM.out)
        have HFA := Lib.hid FA
        have hgl2 := live_lt hlv
        have hki : (jN : Int) < (L.length : Int) := by omega
        have HLT := Lib.hid hlt
        unfold rdV at HC
        clear hB hq hqq FA hf hsz
        cases hpy : p y with
        | true =>
          rw [hpy] at HC
          go_wp2_with (go_at_fn fg; refine HC.out.mono ?_; rintro e w3 ⟨rfl, hf3⟩)
          have FB := (HFA.out.trans hf3 (fun _ _ h => h))
          have hfl : (L.take (jN + 1)).filter (fun y => !p y) = (L.take jN).filter (fun y => !p y) := by
            rw [HTK.out, List.filter_append]; simp [hpy]
          have hr := FB.row hgl2 (fun e => e)
          go_roundw
          case rel =>
            refine ⟨iN, jN + 1, rfl, by go_num, by rw [hfl]; exact HIN.out, by omega, by have := HLT.out; omega, (FB.liv hgl2 (fun e => e)).trans hlv, by rw [hr]; exact hsz'.out, ?_, fun x hx h2 => by rw [hr]; exact HB.out x hx (by omega), HF.out.trans FB (fun _ _ h => h.elim)⟩
            rw [hr, hfl]; exact HA.out
          case measure => (have := HLT.out; simp only [intOf]; omega)
        | false =>
          rw [hpy] at HC
          have hrl : iN * 4 + 4 ≤ (rowOf wr gv).size := by rw [hsz'.out]; have := Nat.mul_le_mul_right 4 (Nat.le_trans (Nat.le_of_lt hij) (Nat.le_trans hjl hcapL)); omega
          have hiL : (iN : Int) < (L.length : Int) := by omega
          obtain ⟨v0, hv0⟩ : ∃ v, (rowOf wr gv)[iN * 4]? = some v := ⟨_, Array.getElem?_eq_getElem (by omega)⟩
          obtain ⟨v1, hv1⟩ : ∃ v, (rowOf wr gv)[iN * 4 + 1]? = some v := ⟨_, Array.getElem?_eq_getElem (by omega)⟩
          obtain ⟨v2, hv2⟩ : ∃ v, (rowOf wr gv)[iN * 4 + 2]? = some v := ⟨_, Array.getElem?_eq_getElem (by omega)⟩
          obtain ⟨v3, hv3⟩ : ∃ v, (rowOf wr gv)[iN * 4 + 3]? = some v := ⟨_, Array.getElem?_eq_getElem (by omega)⟩
          go_wp2_with (go_at_fn fg; refine HC.out.mono ?_; rintro e w3 ⟨rfl, hf3⟩; have rk : rowOf w3 wr.heap.size = #[.string ⟨#[116]⟩, .int .i64 y.kind, .string ⟨y.lo.toArray⟩, .string ⟨y.hi.toArray⟩] := (hf3.row (by simp) (fun e => e)).trans (by simp [go_sem]); have l3 : live w3 gv = true := (hf3.liv (by simp; omega) (fun e => e)).trans ((HFA.out.liv hgl2 (fun e => e)).trans hlv); have r3 : rowOf w3 gv = rowOf wr gv := (hf3.row (by simp; omega) (fun e => e)).trans (HFA.out.row hgl2 (fun e => e)); have HF3 := Lib.hid hf3; clear hf3; have R3 := Lib.hid r3; have hw0 := hv0; have hw1 := hv1; have hw2 := hv2; have hw3 := hv3; rw [← r3] at hw0 hw1 hw2 hw3; clear r3 c0 c1 c2 c3 hv0 hv1 hv2 hv3)
          have hfl : (L.take (jN + 1)).filter (fun y => !p y) = (L.take jN).filter (fun y => !p y) ++ [y] := by
            rw [HTK.out, List.filter_append]; simp [hpy]
          have hwz : (rowOf w3 gv).size = cap * 4 := by rw [R3.out]; exact hsz'.out
          have FB := (HFA.out.trans HF3.out (fun _ _ h => h))
          have hrl3 : iN * 4 + 4 ≤ (rowOf w3 gv).size := by rw [R3.out]; exact hrl
          go_roundw
          case rel =>
            refine ⟨iN + 1, jN + 1, by go_num, by go_num, by rw [hfl, List.length_append, ← HIN.out]; rfl, by omega, by have := HLT.out; omega, by rw [live_setRow]; exact l3, ?_, ?_, ?_, (HF.out.trans FB (fun _ _ h => h.elim)).setRow gv _ (fun _ => rfl)⟩
            · rw [rowOf_setRow_same _ _ _ l3]
              exact (set4_size _ _ _ _ _ _).trans hwz
            · rw [rowOf_setRow_same _ _ _ l3]
              intro x hx
              have key : ∀ (l : List RdT) (h : x < l.length), l = (L.take jN).filter (fun y => !p y) ++ [y] → cut (set4 (rowOf w3 gv) (iN * 4) (.string ⟨#[116]⟩) (.int .i64 y.kind) (.string ⟨y.lo.toArray⟩) (.string ⟨y.hi.toArray⟩)) (x * 4) 4 = rdC l[x] := by
                intro l h e
                subst e
                rw [List.length_append, ← HIN.out] at h
                simp only [List.length_cons, List.length_nil] at h
                by_cases hxi : x < iN
                · rw [List.getElem_append_left (by rw [← HIN.out]; exact hxi), cut_set4_other _ _ _ _ _ _ _ (by omega) (by omega), R3.out]
                  exact HA.out x (by rw [← HIN.out]; exact hxi)
                · obtain rfl : x = iN := by omega
                  rw [List.getElem_append_right (by rw [← HIN.out]; exact Nat.le_refl _), cut_set4 _ _ _ _ _ _ hrl3]
                  simp [← HIN.out]; rfl
              exact key _ hx hfl
            · rw [rowOf_setRow_same _ _ _ l3]
              intro x hx h2
              refine (cut_set4_other _ _ _ _ _ _ _ ?_ (by omega)).trans ((congrArg (fun r => cut r (x * 4) 4) R3.out).trans (HB.out x hx (by omega)))
              rw [hwz]; have := Nat.mul_le_mul_right 4 (Nat.le_trans hx hcapL); omega
          case measure => (have := HLT.out; simp only [intOf]; omega)
      · obtain rfl : jN = L.length := by omega
        have hiL : (iN : Int) ≤ (L.length : Int) := by omega
        have hic : iN < cap := by omega
        have hicc : ¬ cap = iN := by omega
        have hlc : (L.length : Int) ≤ (cap : Int) := by omega
        obtain ⟨w5, hcl, hl5, hs5, hc5, hf5⟩ := run_clear117 (w := wr) (g := gv) (o := iN * 4) (m := L.length - iN) (c := cap - iN) hlv (by omega) (by rw [hsz]; have := Nat.mul_le_mul_right 4 hcapL; omega)
        have HL5 := Lib.hid hl5
        have HS5 := Lib.hid hs5
        have HC5 := Lib.hid hc5
        have HF5 := Lib.hid hf5
        clear hB hf hsz hl5 hs5 hc5 hf5
        go_wp2
        go_ret
        have hall : L.filter (fun y => !p y) = (L.take L.length).filter (fun y => !p y) := by rw [List.take_of_length_le (Nat.le_refl _)]
        refine ⟨iN, rfl, by rw [hall]; exact HIN.out, HL5.out, by rw [HS5.out]; exact hsz'.out, ?_, HF.out.trans HF5.out (fun _ _ h => h)⟩
        intro x hx h2
        rw [HC5.out _ (by omega)]
        have key : ∀ (l : List RdT) (h : x < l.length), l = (L.take L.length).filter (fun y => !p y) → cut (rowOf wr gv) (x * 4) 4 = rdC l[x] := by
          intro l h e
          subst e
          exact HA.out x h
        exact key _ h2 hall
end Go.Proofs.YteldfmgjbgedaaaGreat
