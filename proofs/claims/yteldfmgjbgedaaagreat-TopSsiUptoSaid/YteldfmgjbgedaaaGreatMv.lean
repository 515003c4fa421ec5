/-
  Package siread: append to what slices.DeleteFunc left.
-/
import Derived.Test.YteldfmgjbgedaaaGreatMu
namespace Go.Proofs.YteldfmgjbgedaaaGreat
open Go.RowKit Go.Maps

/-- A slice at the head of a row of its own, maybe of no element. -/
def Own0 (w : World) (v : Value) (size : Nat) (xs : List (Array Value)) (base : Nat) : Prop :=
  (v = .slice none 0 0 ∧ xs = []) ∨
  ∃ g cap, v = .slice (some ⟨g, 0, none⟩) xs.length cap ∧ base ≤ g ∧ live w g = true ∧ xs.length ≤ cap ∧ cap ≤ maxLen ∧ (rowOf w g).size = cap * size ∧
    ∀ i (h : i < xs.length), cut (rowOf w g) (i * size) size = xs[i]
theorem Own0.lt {w : World} {v : Value} {size : Nat} {xs : List (Array Value)} {base : Nat} (h : Own0 w v size xs base) {k : Nat} (hk : v.ownBlock = some k) : base ≤ k ∧ k < w.heap.size := by
  rcases h with ⟨rfl, _⟩ | ⟨g, cap, rfl, h1, h2, _⟩
  · cases hk
  · simp only [Value.ownBlock, Option.some.injEq] at hk; subst hk; exact ⟨h1, live_lt h2⟩
theorem Own0.len {w : World} {v : Value} {size : Nat} {xs : List (Array Value)} {base : Nat} (h : Own0 w v size xs base) : ∃ a c, v = .slice a xs.length c := by
  rcases h with ⟨rfl, rfl⟩ | ⟨g, cap, rfl, _⟩
  · exact ⟨_, _, rfl⟩
  · exact ⟨_, _, rfl⟩
theorem Own0.keep {w w' : World} {v : Value} {size : Nat} {xs : List (Array Value)} {base : Nat} (h : Own0 w v size xs base) {F : Nat → Prop} (hf : Fr F w w') (hF : ∀ k, v.ownBlock = some k → ¬ F k) : Own0 w' v size xs base := by
  rcases h with ⟨rfl, h⟩ | ⟨g, cap, rfl, h1, h2, h3, h4, h5, h6⟩
  · exact .inl ⟨rfl, h⟩
  · have hg := live_lt h2
    exact .inr ⟨g, cap, rfl, h1, by rw [hf.liv hg (hF g rfl)]; exact h2, h3, h4, by rw [hf.row hg (hF g rfl)]; exact h5, by rw [hf.row hg (hF g rfl)]; exact h6⟩

theorem run_append_one0 {w : World} {t e : TypeId} {z : Value} {size bytes : Nat} (ty : TypeId) (ht : Tryz.prog.underlying t = some (.slice e)) (hti : TI e z size bytes) {v : Value} {xs : List (Array Value)} {base : Nat}
    (h : Own0 w v size xs base) (hbase : base ≤ w.heap.size) (gx c1 : Nat) (x : Array Value) (hx : size ≤ (rowOf w gx).size) (hx2 : cut (rowOf w gx) 0 size = x) (h1 : ones x) (hxs : ∀ y ∈ xs, y.size = size)
    (hm : xs.length + 1 ≤ maxLen) (hfit : Builtin.nextslicecap (xs.length + 1) xs.length * bytes ≤ 281474976710656) :
    ∃ g' cap' w', (Builtin.append_ #[t, t] ty #[v, .slice (some ⟨gx, 0, none⟩) 1 c1]).run Tryz.prog w = .ok (.slice (some ⟨g', 0, none⟩) (xs.length + 1) cap') w' ∧
      OwnRows w' (.slice (some ⟨g', 0, none⟩) (xs.length + 1) cap') size (xs ++ [x]) base ∧ Fr (fun i => v.ownBlock = some i) w w' ∧ (v.ownBlock = some g' ∨ w.heap.size ≤ g') := by
  obtain ⟨hi0, hzs, hsz⟩ := hti
  obtain ⟨i, hi, hz, hsize, hby⟩ := info_parts hi0
  have hxsz : x.size = size := by rw [← hx2]; exact cut_size (by omega)
  obtain ⟨ys, hown, hys⟩ : ∃ ys, OwnSl w size v xs.length ys ∧ (∀ i (h : i < xs.length), cut ys.toArray (i * size) size = xs[i]) := by
    rcases h with ⟨rfl, rfl⟩ | ⟨g, cap, rfl, b1, b2, b3, b4, b5, b6⟩
    · exact ⟨[], ⟨by simp, .inl ⟨rfl, rfl⟩⟩, fun i h => by simp at h⟩
    · have hc := Nat.mul_le_mul_right size b3
      refine ⟨(rowOf w g).toList.take (xs.length * size), ⟨by simp; omega, .inr ⟨g, cap, rfl, b2, b3, b4, b5, rfl⟩⟩, fun i h => ?_⟩
      have hi2 : i * size + size ≤ xs.length * size := by have := Nat.mul_le_mul_right size h; rw [Nat.succ_mul] at this; exact this
      rw [← b6 i h]
      refine cut_ext (cut_size (by omega)) (by simp; omega) (fun q hq => ?_)
      rw [cut_get (by omega) q hq]
      simp only [List.getElem?_toArray, List.getElem?_take]
      rw [if_pos (by omega)]; simp
  obtain ⟨v', w', hrun, ⟨hex, hfr⟩⟩ := run_append_row (P := Tryz.prog) w t ty e i z size bytes ht hi hz hsize hby hzs hsz v xs.length ys hown (some ⟨gx, 0, none⟩) 1 c1 x.toList (by simp [hxsz])
    (.inr ⟨_, rfl, fun j u hu => by
      have hj : j < size := by have := (List.getElem?_eq_some_iff.1 hu).1; simpa [hxsz] using this
      rw [Addr.add_lit, cell?_row, ← cut_get (by omega : 0 + size ≤ _) j hj, hx2]; simpa using hu⟩) (fun u hu => h1 u (by simpa using hu)) hm
    (fun cap c0 c2 => by obtain rfl : cap = xs.length := by omega
                         exact hfit)
  rcases hex with ⟨h0, _⟩ | ⟨g', cap', rfl, e1, e2, e3, e4, e5, e6⟩
  · omega
  · refine ⟨g', cap', w', hrun, .inr ⟨g', cap', by simp, ?_, e3, ⟨by simpa using e1, by simp⟩, e2, e4, ?_⟩, hfr, e6⟩
    · rcases e6 with e | e
      · exact (h.lt e).1
      · omega
    · intro j hj
      simp only [List.length_append, List.length_cons, List.length_nil, Nat.zero_add] at hj
      have hsize2 : (xs.length + 1) * size ≤ (rowOf w' g').size := by rw [e4]; exact Nat.mul_le_mul_right _ e1
      have hget : ∀ q, q < (xs.length + 1) * size → (rowOf w' g')[q]? = (ys ++ x.toList)[q]? := by
        intro q hq
        rw [← e5, List.getElem?_take, if_pos hq]; simp
      have hyl := hown.1
      rw [Nat.succ_mul] at hsize2
      by_cases hjl : j < xs.length
      · rw [List.getElem_append_left hjl, ← hys j hjl]
        have hj2 : j * size + size ≤ xs.length * size := by have := Nat.mul_le_mul_right size hjl; rw [Nat.succ_mul] at this; exact this
        refine cut_ext (cut_size (by simp [hyl]; omega)) (by omega) (fun q hq => ?_)
        rw [hget _ (by rw [Nat.succ_mul]; omega), cut_get (by simp [hyl]; omega) q hq, List.getElem?_append_left (by omega)]
        simp
      · obtain rfl : j = xs.length := by omega
        rw [List.getElem_append_right (by simp)]
        simp only [Nat.sub_self, List.getElem_cons_zero]
        refine cut_ext hxsz (by omega) (fun q hq => ?_)
        rw [hget _ (by rw [Nat.succ_mul]; omega), List.getElem?_append_right (by omega), hyl]
        simp

theorem wpList_append_one0 {w : World} {ops : Array Oper} {rest : List Oper} {o : Oper} {a : Act} {Q : Exit → Act → World → Prop} (hgd : o.guard = none) (s y : Operand) (t : TypeId)
    (ho : o.op = .call { callee := .builtin .append, args := #[s, y], argTypes := #[t, t] }) (e : TypeId) (z : Value) (size bytes : Nat) (ht : Tryz.prog.underlying t = some (.slice e)) (hti : TI e z size bytes)
    (v : Value) (xs : List (Array Value)) (base : Nat) (hs : a.eval s = v) (h : Own0 w v size xs base) (hbase : base ≤ w.heap.size) (gx c1 : Nat) (hy : a.eval y = .slice (some ⟨gx, 0, none⟩) 1 c1)
    (x : Array Value) (hx : size ≤ (rowOf w gx).size) (hx2 : cut (rowOf w gx) 0 size = x) (h1 : ones x) (hxs : ∀ y ∈ xs, y.size = size)
    (hm : xs.length + 1 ≤ maxLen) (hfit : Builtin.nextslicecap (xs.length + 1) xs.length * bytes ≤ 281474976710656)
    (hK : ∀ g' cap' w', OwnRows w' (.slice (some ⟨g', 0, none⟩) (xs.length + 1) cap') size (xs ++ [x]) base → Fr (fun i => v.ownBlock = some i) w w' → (v.ownBlock = some g' ∨ w.heap.size ≤ g') →
      wpList Tryz.prog ops Q rest (a.put o.dst (.slice (some ⟨g', 0, none⟩) (xs.length + 1) cap')) w') :
    wpList Tryz.prog ops Q (o :: rest) a w := by
  obtain ⟨g', cap', w', hrun, a1, a2, a3⟩ := run_append_one0 o.type ht hti h hbase gx c1 x hx hx2 h1 hxs hm hfit
  refine wpList_plain hgd fun K hk => ?_
  unfold Oper.wp
  simp [execOp, ho, resolve, invoke, builtin, hs, hy, hrun, Result.andThen]
  exact hk _ _ (hK g' cap' w' a1 a2 a3)


set_option maxRecDepth 20000 in
set_option maxHeartbeats 2000000 in
theorem deleteFunc91_nil (w : World) {fg : Nat} {cb : Array Value} {p : RdT → Bool} (eg : ∀ args w, (callFunc fg args).run Tryz.prog w = .ok (.enter fg args) w) (hp : ∀ W q, Fr (fun _ => False) w W → q ∈ ([] : List RdT) → Calls Tryz.prog fg (#[.agg #[(.string ⟨#[116]⟩),(.int .i64 q.kind),(.string ⟨q.lo.toArray⟩),(.string ⟨q.hi.toArray⟩)]] ++ cb) W fun e w' => e = .returned (.bool (p q)) ∧ Fr (fun _ => False) W w') :
    Calls Tryz.prog 91 #[.slice none 0 0, .func (.func fg) #[] cb] w fun e w' => e = .returned (.slice none 0 0) ∧ Fr (fun _ => False) w w' := by
  have HIX := Lib.hid (indexFuncRd w (v := .slice none 0 0) (xs := []) (base := 0) (OwnRows.nil _ _ _) eg (p := p) hp)
  clear hp eg
  go_enter Tryz.func91, Tryz.ntmps91
  go_wp2_with fail
  refine HIX.out.mono ?_
  rintro e w1 ⟨i, rfl, hi, hf1⟩
  rcases hi with ⟨rfl, -⟩ | ⟨k0, hk0, -⟩
  · go_wp2
    go_ret
    exact ⟨rfl, hf1⟩
  · simp at hk0

/-- Clone, then DeleteFunc. -/
theorem delete_any (w : World) {v : Value} {L : List RdT} {base : Nat} (ho : OwnRows w v 4 (rdRows L) base) {fg : Nat} {cb : Array Value} {p : RdT → Bool} (eg : ∀ args w, (callFunc fg args).run Tryz.prog w = .ok (.enter fg args) w)
    (hp : ∀ W q, Fr (fun k => v.ownBlock = some k) w W → q ∈ L → Calls Tryz.prog fg (#[rdV q] ++ cb) W fun e w' => e = .returned (.bool (p q)) ∧ Fr (fun _ => False) W w') :
    Calls Tryz.prog 91 #[v, .func (.func fg) #[] cb] w fun e w' => ∃ v', e = .returned v' ∧ Own0 w' v' 4 (rdRows (L.filter (fun y => !p y))) base ∧ Fr (fun k => v.ownBlock = some k) w w' := by
  rcases ho with ⟨rfl, hL⟩ | ⟨g, cap, rfl, h1, h2, h3, h4, h5, h6⟩
  · have hL0 : L = [] := by
      cases L with
      | nil => rfl
      | cons a b => simp [rdRows] at hL
    subst hL0
    refine (deleteFunc91_nil w eg (p := p) (fun W q _ hq => by cases hq)).mono ?_
    rintro e w' ⟨rfl, hf⟩
    exact ⟨_, rfl, .inl ⟨rfl, rfl⟩, hf.mono (fun _ _ h => h.elim)⟩
  · refine (deleteFunc91 w (base := base) (L := L) (.inr ⟨g, cap, rfl, h1, h2, h3, h4, h5, h6⟩) eg (p := p) (fun W q hf hq => hp W q (hf.mono (fun k _ e => by rw [e]; rfl)) hq)).mono ?_
    rintro e w' ⟨m, rfl, hm, a1, a2, a3, a4⟩
    have hle : (L.filter (fun y => !p y)).length ≤ cap := by
      have := List.length_filter_le (fun y => !p y) L
      rw [rdRows_length] at h3; omega
    refine ⟨_, rfl, .inr ⟨g, cap, by rw [rdRows_length, hm], h1, a1, by rw [rdRows_length]; exact hle, h4, a2, fun i hi => ?_⟩, a4.mono (fun k _ e => by rw [e]; rfl)⟩
    have hi2 : i < (L.filter (fun y => !p y)).length := by rw [rdRows_length] at hi; exact hi
    rw [a3 i (by rw [hm]; exact hi2) hi2]
    simp [rdRows]
/-- What is noted of a transaction's reads. -/
def HN (N : Nat → Option (List RdT)) (i : Nat) (k : Key) : Prop := ∃ L, N i = some L ∧ ∃ y ∈ L, covK y k = true

/-- What a note turns. -/
structure NoteRel (N N' : Nat → Option (List RdT)) (t : Nat) (x : RdT) : Prop where
  mono : ∀ i k, HN N i k → HN N' i k
  new : ∀ k, covK x k = true → HN N' t k
  only : ∀ i, N' i ≠ none → N i ≠ none ∨ i = t
  ok : ∀ i L, N' i = some L → ∀ y ∈ L, RdOk y

/-- New blocks are slices of notes. -/
def cls5 (w : World) (cls : Nat → Nat) : Nat → Nat := fun k => if k < w.heap.size then cls k else 5
theorem cls5_lt {w : World} {cls : Nat → Nat} {k : Nat} (h : k < w.heap.size) : cls5 w cls k = cls k := if_pos h
theorem cls5_ge {w : World} {cls : Nat → Nat} {k : Nat} (h : w.heap.size ≤ k) : cls5 w cls k = 5 := if_neg (by omega)

theorem NotesAt.moved {w w' : World} {cls cls' : Nat → Nat} {bn bn' n n' B : Nat} {f : Value → Option Value} {N : Nat → Option (List RdT)} (h : NotesAt w cls bn n B f N) (hm : MapF w' 138 bn' n' f) {F : Nat → Prop} (hf : Fr F w w') (hF : ∀ k, live w k = true → cls k = 5 → ¬ F k ∧ cls' k = 5) : NotesAt w' cls' bn' n' B f N :=
  ⟨hm, fun t L hN => by
    obtain ⟨h1, h2, v, h3, h4, h5⟩ := h.at_ t L hN
    exact ⟨h1, h2, v, h3, h4.keep hf (fun k hk => (hF k (h4.liv hk) (h5 k hk)).1), fun k hk => (hF k (h4.liv hk) (h5 k hk)).2⟩, h.all⟩

theorem NotesAt.store {w w' : World} {cls : Nat → Nat} {bn n n' B : Nat} {f : Value → Option Value} {N : Nat → Option (List RdT)} (h : NotesAt w cls bn n B f N) {t : Nat} (htB : t < B) (ht : t < 2 ^ 40) {v : Value} {L : List RdT} (hm : MapF w' 138 bn n' (updF f (plKey t) (some v))) (ho : OwnRows w' v 4 (rdRows L) 0) (hc : ∀ k, v.ownBlock = some k → cls k = 5)
    {F : Nat → Prop} (hf : Fr F w w') (hF : ∀ k, live w k = true → cls k = 5 → ¬ F k) : NotesAt w' cls bn n' B (updF f (plKey t) (some v)) (setN N t (some L)) := by
  refine ⟨hm, fun u K hu => ?_, fun v' x hv => ?_⟩
  · by_cases e : u = t
    · subst e
      unfold setN at hu; rw [if_pos rfl] at hu; cases hu
      exact ⟨htB, ht, v, updF_same _ _ _, ho, hc⟩
    · unfold setN at hu; rw [if_neg e] at hu
      obtain ⟨h1, h2, v', h3, h4, h5⟩ := h.at_ u K hu
      exact ⟨h1, h2, v', by rw [updF_ne f _ (fun h => e (plKey_inj h))]; exact h3, h4.keep hf (fun k hk => hF k (h4.liv hk) (h5 k hk)), h5⟩
  · by_cases e : v' = plKey t
    · exact ⟨t, L, e, if_pos rfl⟩
    · rw [updF_ne f _ e] at hv
      obtain ⟨u, K, h1, h2⟩ := h.all v' x hv
      exact ⟨u, K, h1, by unfold setN; rw [if_neg (fun hh => e (by rw [h1, hh]))]; exact h2⟩

/-- A store at a key that is there. -/
theorem MapF.storeSame {w : World} {k e : TypeId} {b n : Nat} {f : Value → Option Value} (h : MapF w k b n f) (K : Keyed Tryz.prog k) {t : TypeId} (ht : Tryz.prog.underlying t = some (.map k e)) (hn : n < maxLen) (key x : Value) {kl : Lit} (hkey : keyOf Tryz.prog k key = some kl) (hs : (f key).isSome = true) :
    ∃ w', (Instr.mapUpdate t (.map (some b)) key x).run Tryz.prog w = .ok () w' ∧ MapF w' k b n (updF f key (some x)) ∧ Fr (fun k => k = b) w w' := by
  obtain ⟨D, hown, F⟩ := h
  obtain ⟨w', hr, h1, h2⟩ := hown.update (d := .held x) (ps := []) K ht hn hkey rfl
  refine ⟨w', hr, ⟨D.put kl (.held x), ?_, F.put K hown.isMap hkey⟩, grown_fr h2⟩
  have hsz : Maps.size (D.put kl (.held x)) ≤ n := by
    rw [Maps.size_put (hown.tidy K), F.has_ key kl hkey, hs, if_pos rfl]
    exact hown.size_le
  obtain ⟨es, clock, hb, Ft, hle, hD⟩ := h1
  refine ⟨es, clock, hb, Ft, ?_, hD⟩
  rw [hD] at hsz
  simpa [Maps.size, length_sorted] using hsz
theorem wpList_storeSame (w : World) {k e : TypeId} {b n : Nat} {f : Value → Option Value} {ops : Array Oper} {rest : List Oper} {o : Oper} {a : Act} {Q : Exit → Act → World → Prop} (hg : o.guard = none) (m x v : Operand) (t : TypeId) (hop : o.op = Op.mapUpdate t m x v)
    (K : Keyed Tryz.prog k) (ht : Tryz.prog.underlying t = some (.map k e)) (hown : MapF w k b n f) (hn : n < maxLen) (hm : a.eval m = .map (some b)) (key val : Value) {kl : Lit} (hx : a.eval x = key) (hv : a.eval v = val) (hkey : keyOf Tryz.prog k key = some kl) (hs : (f key).isSome = true)
    (hK : ∀ w', MapF w' k b n (updF f key (some val)) → Fr (fun k => k = b) w w' → wpList Tryz.prog ops Q rest (a.put o.dst undef) w') : wpList Tryz.prog ops Q (o :: rest) a w := by
  refine wpList_plain hg fun K' hK' => ?_
  obtain ⟨w', hr, h1, h2⟩ := hown.storeSame K ht hn key val hkey hs
  unfold Oper.wp
  simp [execOp, hop, hm, hx, hv, hr, Result.andThen]
  exact hK' _ _ (hK w' h1 h2)
end Go.Proofs.YteldfmgjbgedaaaGreat
