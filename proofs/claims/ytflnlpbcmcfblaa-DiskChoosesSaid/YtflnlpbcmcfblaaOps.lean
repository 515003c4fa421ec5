/-
  Scripts of operations: how they lie, how one is loaded; append of bytes where the order is drawn.
-/
import Derived.Test.YtflnlpbcmcfblaaOwnM
namespace Go.Proofs.Ytflnlpbcmcfblaa
open Go.RowKit

section
variable (ρ : Operand → Value) (dst : Option Tmp) (x y : Operand) (type : TypeId) (pos : String) (after : Array Edge) (guard : Option (Nat × Bool))
@[go_sem ↓] theorem execOp_load55 : execOp ρ { dst, op := .load 55 x, type, pos, after, guard } = (do pure (.value (← loadBig 55 (ρ x)))) := rfl
@[go_sem ↓] theorem execOp_store55 : execOp ρ { dst, op := .store 55 x y, type, pos, after, guard } = (do storeBig 55 (ρ x) (ρ y); pure .skip) := rfl
@[go_sem ↓] theorem execOp_alloc55 : execOp ρ { dst, op := .alloc 55, type, pos, after, guard } = (do pure (.value (← allocBig 55))) := rfl
end
attribute [go_sem high] execOp_load55 execOp_store55 execOp_alloc55

theorem size55 : (Try.prog.info? 55).map (·.size) = some 4 := by kernel_rfl
def zero55 : Array Value := #[.int .i64 0, .int .i64 0, .slice none 0 0, .slice none 0 0]
@[go_sem] theorem zero55_size : zero55.size = 4 := rfl
theorem info55 : (Try.prog.info? 55).map (fun i => (i.zero, i.size, i.bytes)) = some (some (.agg zero55), 4, 64) := by kernel_rfl

section
variable (w : World)
@[go_sem] theorem run_load55 (g off : Nat) (h : off + 4 ≤ (rowOf w g).size) :
    (loadBig 55 (.pointer (some ⟨g, off, none⟩))).run Try.prog w = .ok (.agg (cut (rowOf w g) off 4)) w :=
  run_loadAt_big w 55 4 Try.underlying55 rfl size55 g off h
@[go_sem] theorem run_store55 (g off : Nat) (cs : Array Value) (hs : cs.size = 4) (hl : live w g = true) (h : off + 4 ≤ (rowOf w g).size) (h1 : ones cs) :
    (storeBig 55 (.pointer (some ⟨g, off, none⟩)) (.agg cs)).run Try.prog w = .ok () (w.setRow g (blit (rowOf w g) off cs)) :=
  run_storeAt_big w 55 g off cs (by rw [hs]; exact size55) hl (by omega) h1
@[go_sem] theorem run_alloc55 : (allocBig 55).run Try.prog w = .ok (.pointer (some ⟨w.heap.size, 0, none⟩)) (w.alloc (.cells zero55 55)) := by
  obtain ⟨i, hi, hz, hs, hb⟩ := info_parts info55
  simp [allocBig, Instr.alloc, zeroValue, typeInfo, hi, hz, newVar, newRow, Value.cells]
@[go_sem] theorem blit_zero55 (cs : Array Value) (h : cs.size = 4) : blit zero55 0 cs = cs := blit_all (by rw [h, zero55_size])
end

/-- One operation of a script. -/
structure OpV where
  d : Int
  n : Int
  data : List UInt8
  keep : List Int

def opC (o : OpV) (vd vk : Value) : Array Value := #[.int .i64 o.d, .int .i64 o.n, vd, vk]

/-- A script in memory. -/
def OpsAt (w : World) (v : Value) (l : List OpV) : Prop :=
  ∃ a cap, v = .slice a l.length cap ∧ l.length ≤ 2199023255552 ∧ (l = [] ∨ ∃ g off, a = some ⟨g, off, none⟩ ∧
    ∀ i (h : i < l.length), ∃ vd vk, off + i * 4 + 4 ≤ (rowOf w g).size ∧ cut (rowOf w g) (off + i * 4) 4 = opC l[i] vd vk ∧ BytesAt w vd l[i].data ∧ IntsAt w vk l[i].keep)

theorem IntsAt.later {w w' : World} {v : Value} {b : List Int} (h : IntsAt w v b) (f : Fr (fun _ => False) w w') : IntsAt w' v b := h.keep f (fun _ _ h => h)

theorem OpsAt.later {w w' : World} {v : Value} {l : List OpV} (h : OpsAt w v l) (f : Fr (fun _ => False) w w') : OpsAt w' v l := by
  obtain ⟨a, cap, rfl, hm, h | ⟨g, off, rfl, h1⟩⟩ := h
  · exact ⟨a, cap, rfl, hm, .inl h⟩
  · refine ⟨_, cap, rfl, hm, .inr ⟨g, off, rfl, fun i hi => ?_⟩⟩
    obtain ⟨vd, vk, e1, e2, e3, e4⟩ := h1 i hi
    have hg := f.row (rowOf_lt (w := w) (g := g) (by omega)) (fun h => h)
    exact ⟨vd, vk, by rw [hg]; exact e1, by rw [hg]; exact e2, e3.later f, e4.later f⟩

theorem step_append_B {w : World} {ops : Array Oper} {o : Oper} {a : Act} {K : Act → World → Prop} {Q : Exit → Act → World → Prop} {E : Prop} (hgd : o.guard = none) (s y : Operand)
    (ho : o.op = .call { callee := .builtin .append, args := #[s, y], argTypes := #[36, 36] }) (v : Value) (b : List UInt8) (base : Nat) (hs : a.eval s = v) (h : OwnB w v b base) (hbase : base ≤ w.heap.size)
    (vs : Value) (news : List UInt8) (hy : a.eval y = vs) (hn : BytesAt w vs news) (hm : b.length + news.length ≤ 140737488355328)
    (hK : ∀ v' w', OwnB w' v' (b ++ news) base → Fr (fun i => v.ownBlock = some i) w w' → (∀ k, v'.ownBlock = some k → v.ownBlock = some k ∨ w.heap.size ≤ k) → K (a.put o.dst v') w') :
    if Region.wanted o (yielded ops a.tmps) = true then Oper.wp Try.prog o a w K Q else E := by
  have hw : Region.wanted o (yielded ops a.tmps) = true := by simp [Region.wanted, hgd]
  rw [if_pos hw]
  obtain ⟨v', w', hrun, a1, a2, a3⟩ := run_append_B o.type h hbase hn hm
  unfold Oper.wp
  simp [execOp, ho, resolve, invoke, builtin, hs, hy, hrun, Result.andThen]
  exact hK v' w' a1 a2 a3

/-! ### 'writes' -/

/-- Is it a write that may be? -/
def OpV.isW (o : OpV) (blocks : Nat) : Bool := o.d == 0 && decide (0 ≤ o.n) && decide (o.n < blocks) && decide (o.data.length = 64)
/-- The disk behind one operation of 'writes'. -/
def DS.w1 (S : DS) (o : OpV) : DS := if o.isW S.data.length then (S.write o.n o.data).2 else S
def DS.wAll (S : DS) (l : List OpV) : DS := l.foldl DS.w1 S
/-- What was written last. -/
def last1 (blocks : Nat) (L : List (Option (List UInt8))) (o : OpV) : List (Option (List UInt8)) := if o.isW blocks then L.set o.n.toNat (some o.data) else L
def lastAll (blocks : Nat) (l : List OpV) : List (Option (List UInt8)) := l.foldl (last1 blocks) (List.replicate blocks none)

theorem write_isW {S : DS} {o : OpV} (h : o.isW S.data.length = true) (ho : S.off = false) (hp : S.pl = false) :
    S.write o.n o.data = (0, { S with pend := S.pend ++ [(o.n.toNat, o.data)], wr := wrap64 (S.wr + 1) }) := by
  simp only [OpV.isW, Bool.and_eq_true, decide_eq_true_eq, beq_iff_eq] at h
  obtain ⟨⟨⟨h1, h2⟩, h3⟩, h4⟩ := h
  have hr : S.ready o.n = 0 := readyI_zero.2 ⟨ho, h2, h3⟩
  have hg : S.goesB = true := by simp [DS.goesB, goesB, hp]
  have hg2 : S.goes = S := by cases S; simp_all [DS.goes, goesOff, goesPl, goesLeft]
  unfold DS.write
  rw [if_neg (by rw [hr]; simp), if_neg (by rw [h4]; simp), if_neg (by rw [hg]; simp), hg2]

theorem w1_fields (S : DS) (o : OpV) (ho : S.off = false) (hp : S.pl = false) : (S.w1 o).off = false ∧ (S.w1 o).pl = false ∧ (S.w1 o).data = S.data ∧ (S.w1 o).torn = S.torn ∧ (S.w1 o).left = S.left ∧ (S.w1 o).sy = S.sy ∧
    (S.w1 o).pend = S.pend ++ (if o.isW S.data.length then [(o.n.toNat, o.data)] else []) := by
  unfold DS.w1
  by_cases h : o.isW S.data.length = true
  · rw [if_pos h, if_pos h, write_isW h ho hp]; exact ⟨ho, hp, rfl, rfl, rfl, rfl, rfl⟩
  · rw [if_neg h, if_neg h]; exact ⟨ho, hp, rfl, rfl, rfl, rfl, by simp⟩

/-- The writes that may be. -/
def wPend (blocks : Nat) (l : List OpV) : List (Nat × List UInt8) := (l.filter (fun o => o.isW blocks)).map (fun o => (o.n.toNat, o.data))

theorem wAll_fields (l : List OpV) : ∀ S : DS, S.off = false → S.pl = false → (S.wAll l).off = false ∧ (S.wAll l).pl = false ∧ (S.wAll l).data = S.data ∧ (S.wAll l).torn = S.torn ∧ (S.wAll l).left = S.left ∧ (S.wAll l).sy = S.sy ∧
    (S.wAll l).pend = S.pend ++ wPend S.data.length l := by
  induction l with
  | nil => intro S ho hp; simp [DS.wAll, wPend, ho, hp]
  | cons o l ih =>
    intro S ho hp
    obtain ⟨a1, a2, a3, a4, a5, a6, a7⟩ := w1_fields S o ho hp
    obtain ⟨b1, b2, b3, b4, b5, b6, b7⟩ := ih (S.w1 o) a1 a2
    have e : S.wAll (o :: l) = (S.w1 o).wAll l := rfl
    rw [e]
    refine ⟨b1, b2, b3.trans a3, b4.trans a4, b5.trans a5, b6.trans a6, ?_⟩
    rw [b7, a7, a3]
    unfold wPend
    by_cases h : o.isW S.data.length = true <;> simp [h]

theorem wPend_len (blocks : Nat) (l : List OpV) : (wPend blocks l).length ≤ l.length := by
  unfold wPend; rw [List.length_map]; exact List.length_filter_le _ _
theorem wAll_take_succ (S : DS) (l : List OpV) (k : Nat) (h : k < l.length) : S.wAll (l.take (k + 1)) = (S.wAll (l.take k)).w1 l[k] := by
  unfold DS.wAll
  rw [List.take_succ_eq_append_getElem h, List.foldl_append]; rfl
theorem lastAll_take_succ (n : Nat) (l : List OpV) (k : Nat) (h : k < l.length) : lastAll n (l.take (k + 1)) = last1 n (lastAll n (l.take k)) l[k] := by
  unfold lastAll
  rw [List.take_succ_eq_append_getElem h, List.foldl_append]; rfl
theorem lastAll_len (n : Nat) (l : List OpV) : (lastAll n l).length = n := by
  unfold lastAll
  have : ∀ (l : List OpV) (L : List (Option (List UInt8))), (l.foldl (last1 n) L).length = L.length := by
    intro l
    induction l with
    | nil => intro L; rfl
    | cons o l ih => intro L; rw [List.foldl_cons, ih]; unfold last1; split <;> simp
  rw [this]; simp

/-- The last written bytes, in memory. -/
def LastAt (w : World) (g : Nat) (L : List (Option (List UInt8))) (base : Nat) (p : DP) : Prop :=
  base ≤ g ∧ live w g = true ∧ (rowOf w g).size = L.length ∧ ¬ p.foot g ∧ ∀ i (h : i < L.length), ∃ u, (rowOf w g)[i]? = some u ∧
    ((L[i] = none ∧ u = .slice none 0 0) ∨ ∃ b, L[i] = some b ∧ OwnBytes w u b base ∧ u.ownBlock ≠ some g ∧ ∀ k, u.ownBlock = some k → ¬ p.foot k)

theorem LastAt.keep {w w' : World} {g : Nat} {L : List (Option (List UInt8))} {base : Nat} {p p' : DP} (h : LastAt w g L base p) {F : Nat → Prop} (hf : Fr F w w') (hF : ∀ k, base ≤ k → k < w.heap.size → ¬ p.foot k → ¬ F k)
    (hp : ∀ k, p'.foot k → p.foot k ∨ w.heap.size ≤ k) : LastAt w' g L base p' := by
  obtain ⟨h1, h2, h3, h4, h5⟩ := h
  have hg := live_lt h2
  have hFg := hF g h1 hg h4
  refine ⟨h1, by rw [hf.liv hg hFg]; exact h2, by rw [hf.row hg hFg]; exact h3, fun e => (hp g e).elim h4 (fun e => by omega), fun i hi => ?_⟩
  obtain ⟨u, e1, e2 | ⟨b, e2, e3, e4, e5⟩⟩ := h5 i hi
  · exact ⟨u, by rw [hf.row hg hFg]; exact e1, .inl e2⟩
  · exact ⟨u, by rw [hf.row hg hFg]; exact e1, .inr ⟨b, e2, e3.keep hf (fun k hk => hF k (e3.lt hk).1 (e3.lt hk).2 (e5 k hk)), e4, fun k hk e => (hp k e).elim (e5 k hk) (fun e => by have := (e3.lt hk).2; omega)⟩⟩

theorem LastAt.put {w w' : World} {g : Nat} {L : List (Option (List UInt8))} {base : Nat} {p : DP} (h : LastAt w g L base p) {i : Nat} (_hi : i < L.length) {u : Value} {b : List UInt8} (hu : OwnBytes w u b base) (hug : u.ownBlock ≠ some g)
    (hup : ∀ k, u.ownBlock = some k → ¬ p.foot k) (hf : Fr (fun k => k = g) w w') (hr : rowOf w' g = (rowOf w g).setIfInBounds i u) (hl : live w' g = true) : LastAt w' g (L.set i (some b)) base p := by
  obtain ⟨h1, h2, h3, h4, h5⟩ := h
  have other : ∀ v c, OwnBytes w v c base → v.ownBlock ≠ some g → OwnBytes w' v c base := fun v c hv hne => hv.keep hf (fun k hk e => hne (by rw [hk, e]))
  refine ⟨h1, hl, by rw [hr]; simpa using h3, h4, fun j hj => ?_⟩
  simp only [List.length_set] at hj
  obtain ⟨v, e1, e2⟩ := h5 j hj
  rw [hr, setIf_get e1]
  by_cases e : i = j
  · subst e
    exact ⟨u, by simp, .inr ⟨b, by simp, other u b hu hug, hug, hup⟩⟩
  · refine ⟨v, by simp [e], ?_⟩
    rw [List.getElem_set_ne e]
    rcases e2 with e2 | ⟨c, e2, e3, e4, e5⟩
    · exact .inl e2
    · exact .inr ⟨c, e2, other v c e3 e4, e4, e5⟩

end Go.Proofs.Ytflnlpbcmcfblaa
