/-
  Package log, in plain: what a mark's block and a head's block say when they are read off again.
-/
import Derived.Test.YtflnlpbcmcfblaaMarkB
namespace Go.Proofs.Ytflnlpbcmcfblaa
open Go.RowKit

/-! ### Package log, in plain: what a mark's block and a head's block say when they are read off again. -/
theorem le_leB (n : Nat) : ∀ k, le (leB n k) = n % 256 ^ k
  | 0 => by simp [leB, le, Nat.mod_one]
  | k + 1 => by
    rw [leB, le_append, le_leB n k, leB_len, Nat.pow_succ, Nat.mod_mul]
    simp [le]

theorem cutAt {a b c : List UInt8} {p n : Nat} (ha : a.length = p) (hb : b.length = n) : ((a ++ (b ++ c)).drop p).take n = b := by
  subst ha; subst hb
  simp

theorem head_markB (m : MarkV) (load : List UInt8) : (markB m load).head? = some 177 := by simp [markB, markH]
theorem head_headB (h : HeadV) : (headB h).head? = some 75 := by simp [headB]

/-- The numbers of a mark have room. -/
structure MarkFits (m : MarkV) : Prop where
  g : m.gen < 281474976710656
  l : m.life < 281474976710656
  r : m.record < 4294967296
  p : m.place < 65536
  o : m.long < 16777216

theorem rmIs_markB (m : MarkV) {load : List UInt8} (h : load.length ≤ 40) : rmIs (markB m load) = true := by
  simp [rmIs, markB_len m load h, head_markB]

theorem rmV_markB {m : MarkV} (hm : MarkFits m) {load : List UInt8} (h : load.length ≤ 40) : rmV (markB m load) = m := by
  unfold rmV
  rw [if_pos (rmIs_markB m h)]
  have e1 : ((markB m load).drop 1).take 6 = leB m.gen 6 := by
    have e : markB m load = [177] ++ (leB m.gen 6 ++ (leB m.life 6 ++ leB m.record 4 ++ leB m.place 2 ++ leB m.long 3 ++ List.replicate 2 0 ++ load ++ List.replicate (40 - load.length) 0)) := by
      simp only [markB, markH, List.append_assoc]
    rw [e]; exact cutAt rfl (leB_len _ _)
  have e2 : ((markB m load).drop 7).take 6 = leB m.life 6 := by
    have e : markB m load = ([177] ++ leB m.gen 6) ++ (leB m.life 6 ++ (leB m.record 4 ++ leB m.place 2 ++ leB m.long 3 ++ List.replicate 2 0 ++ load ++ List.replicate (40 - load.length) 0)) := by
      simp only [markB, markH, List.append_assoc]
    rw [e]; exact cutAt (by simp [leB_len]) (leB_len _ _)
  have e3 : ((markB m load).drop 13).take 4 = leB m.record 4 := by
    have e : markB m load = ([177] ++ leB m.gen 6 ++ leB m.life 6) ++ (leB m.record 4 ++ (leB m.place 2 ++ leB m.long 3 ++ List.replicate 2 0 ++ load ++ List.replicate (40 - load.length) 0)) := by
      simp only [markB, markH, List.append_assoc]
    rw [e]; exact cutAt (by simp [leB_len]) (leB_len _ _)
  have e4 : ((markB m load).drop 17).take 2 = leB m.place 2 := by
    have e : markB m load = ([177] ++ leB m.gen 6 ++ leB m.life 6 ++ leB m.record 4) ++ (leB m.place 2 ++ (leB m.long 3 ++ List.replicate 2 0 ++ load ++ List.replicate (40 - load.length) 0)) := by
      simp only [markB, markH, List.append_assoc]
    rw [e]; exact cutAt (by simp [leB_len]) (leB_len _ _)
  have e5 : ((markB m load).drop 19).take 3 = leB m.long 3 := by
    have e : markB m load = ([177] ++ leB m.gen 6 ++ leB m.life 6 ++ leB m.record 4 ++ leB m.place 2) ++ (leB m.long 3 ++ (List.replicate 2 0 ++ load ++ List.replicate (40 - load.length) 0)) := by
      simp only [markB, markH, List.append_assoc]
    rw [e]; exact cutAt (by simp [leB_len]) (leB_len _ _)
  rw [e1, e2, e3, e4, e5]
  obtain ⟨g, l, r, p, o⟩ := hm
  simp only [le_leB]
  cases m
  simp only [MarkV.mk.injEq]
  refine ⟨Nat.mod_eq_of_lt (by simpa using g), Nat.mod_eq_of_lt (by simpa using l), Nat.mod_eq_of_lt (by simpa using r), Nat.mod_eq_of_lt (by simpa using p), Nat.mod_eq_of_lt (by simpa using o)⟩

theorem drop_markB (m : MarkV) (load : List UInt8) : (markB m load).drop 24 = load ++ List.replicate (40 - load.length) 0 := by
  have e : markB m load = (markH m ++ List.replicate 2 0) ++ (load ++ List.replicate (40 - load.length) 0) := by simp only [markB, List.append_assoc]
  rw [e, List.drop_left' (by simp [markH_len])]

/-- The numbers of a head have room. -/
structure HeadFits (h : HeadV) : Prop where
  t : h.turn < 18446744073709551616
  l : h.life < 1099511627776
  g : h.gen < 1099511627776
  a : h.area ≤ 1

theorem rhRaw_headB (h : HeadV) : rhRaw (headB h) = true := by simp [rhRaw, headB_len, head_headB]

theorem rhV_headB {h : HeadV} (hf : HeadFits h) : rhV (headB h) = h := by
  unfold rhV
  rw [if_pos (rhRaw_headB h)]
  have e1 : ((headB h).drop 1).take 8 = leB h.turn 8 := by
    have e : headB h = [75] ++ (leB h.turn 8 ++ (leB h.life 8 ++ leB h.gen 8 ++ [UInt8.ofNat h.area] ++ List.replicate 38 0)) := by simp only [headB, List.append_assoc]
    rw [e]; exact cutAt rfl (leB_len _ _)
  have e2 : ((headB h).drop 9).take 8 = leB h.life 8 := by
    have e : headB h = ([75] ++ leB h.turn 8) ++ (leB h.life 8 ++ (leB h.gen 8 ++ [UInt8.ofNat h.area] ++ List.replicate 38 0)) := by simp only [headB, List.append_assoc]
    rw [e]; exact cutAt (by simp [leB_len]) (leB_len _ _)
  have e3 : ((headB h).drop 17).take 8 = leB h.gen 8 := by
    have e : headB h = ([75] ++ leB h.turn 8 ++ leB h.life 8) ++ (leB h.gen 8 ++ ([UInt8.ofNat h.area] ++ List.replicate 38 0)) := by simp only [headB, List.append_assoc]
    rw [e]; exact cutAt (by simp [leB_len]) (leB_len _ _)
  have e4 : ((headB h).drop 25).take 1 = [UInt8.ofNat h.area] := by
    have e : headB h = ([75] ++ leB h.turn 8 ++ leB h.life 8 ++ leB h.gen 8) ++ ([UInt8.ofNat h.area] ++ List.replicate 38 0) := by simp only [headB, List.append_assoc]
    rw [e]; exact cutAt (by simp [leB_len]) rfl
  rw [e1, e2, e3, e4]
  obtain ⟨t, l, g, a⟩ := hf
  simp only [le_leB]
  cases h
  simp only [HeadV.mk.injEq, le] at *
  refine ⟨Nat.mod_eq_of_lt (by simpa using t), Nat.mod_eq_of_lt (by omega), Nat.mod_eq_of_lt (by omega), ?_⟩
  simp; omega

theorem rhIs_headB {h : HeadV} (hf : HeadFits h) : rhIs (headB h) = true := by
  simp [rhIs, rhRaw_headB, rhV_headB hf, hf.a, hf.l, hf.g]

theorem rmIs_headB (h : HeadV) : rmIs (headB h) = false := by simp [rmIs, head_headB]
theorem rmIs_nil : rmIs [] = false := rfl
theorem rhIs_nil : rhIs [] = false := rfl

/-- The blocks of a record. -/
def layB (gen life rec : Nat) (b : List UInt8) : List (List UInt8) := (List.range (recN b.length)).map fun i => markB ⟨gen, life, rec, i, b.length⟩ ((b.drop (i * 40)).take 40)
theorem layB_len (gen life rec : Nat) (b : List UInt8) : (layB gen life rec b).length = recN b.length := by simp [layB]
theorem layB_at (gen life rec : Nat) (b : List UInt8) {i : Nat} (h : i < recN b.length) : at_ (layB gen life rec b) i = markB ⟨gen, life, rec, i, b.length⟩ ((b.drop (i * 40)).take 40) := by
  unfold at_ layB
  rw [List.getD_eq_getElem?_getD, List.getElem?_map, List.getElem?_range h]
  rfl
theorem layB_64 {gen life rec : Nat} {b x : List UInt8} (h : x ∈ layB gen life rec b) : x.length = 64 := by
  simp only [layB, List.mem_map, List.mem_range] at h
  obtain ⟨i, _, rfl⟩ := h
  exact markB_len _ _ (List.length_take_le _ _)
theorem recN_bound {n : Nat} (h : n ≤ 65536) : recN n ≤ 1639 := by unfold recN; split <;> omega
theorem layB_fits {gen life rec : Nat} {b : List UInt8} (hg : gen < 281474976710656) (hl : life < 281474976710656) (hr : rec < 4294967296) (hb : b.length ≤ 65536) {i : Nat} (h : i < recN b.length) : MarkFits ⟨gen, life, rec, i, b.length⟩ :=
  ⟨hg, hl, hr, by have := recN_bound hb; simp only; omega, by simp only; omega⟩

/-! ### Package log, in plain: what of a disk lasts and can be read; writes one behind the other, and what a loss of power leaves of them. -/
/-- What each lasting block says; a torn one says nothing. -/
def DS.vis (S : DS) : List (List UInt8) := (List.range S.data.length).map fun i => if S.torn[i]?.getD false then [] else S.data[i]?.getD []

theorem vis_len (S : DS) : S.vis.length = S.data.length := by simp [DS.vis]

theorem reads_vis {S : DS} (ho : S.off = false) (hp : S.pend = []) : S.reads = S.vis := by
  unfold DS.reads DS.vis
  apply List.map_congr_left
  intro i hi
  rw [List.mem_range] at hi
  have hr : S.ready i = 0 := readyI_zero.2 ⟨ho, by omega, by omega⟩
  unfold DS.read
  rw [if_neg (by rw [hr]; simp), hp]
  simp only [DS.lastOf, List.reverse_nil, List.find?_nil, Option.map_none, Int.toNat_natCast]
  split <;> rfl

theorem at_len {l : List (List UInt8)} {i : Nat} (h : l.length ≤ i) : at_ l i = [] := by
  unfold at_; rw [List.getD_eq_getElem?_getD, List.getElem?_eq_none h]; rfl

theorem vis_at (S : DS) {i : Nat} (h : i < S.data.length) : at_ S.vis i = if S.torn[i]?.getD false then [] else S.data[i]?.getD [] := by
  unfold at_ DS.vis
  rw [List.getD_eq_getElem?_getD, List.getElem?_map, List.getElem?_range h]; rfl

theorem at_set (l : List (List UInt8)) (k i : Nat) (b : List UInt8) : at_ (l.set k b) i = if k = i ∧ k < l.length then b else at_ l i := by
  unfold at_
  rw [List.getD_eq_getElem?_getD, List.getD_eq_getElem?_getD, List.getElem?_set]
  by_cases h : k = i
  · subst h
    by_cases h2 : k < l.length
    · simp [h2]
    · simp [h2]
  · simp [h]

theorem ext_at {a b : List (List UInt8)} (h : a.length = b.length) (h2 : ∀ i, i < a.length → at_ a i = at_ b i) : a = b := by
  apply List.ext_getElem h
  intro i h1 h3
  have := h2 i h1
  unfold at_ at this
  rw [List.getD_eq_getElem?_getD, List.getD_eq_getElem?_getD, List.getElem?_eq_getElem h1, List.getElem?_eq_getElem h3] at this
  exact this

theorem vis_lay (S : DS) (x : Nat × List UInt8) (ht : S.torn.length = S.data.length) : (S.lay x).vis = S.vis.set x.1 x.2 := by
  apply ext_at (by simp [vis_len, DS.lay])
  intro i hi
  rw [vis_len] at hi
  have hi2 : i < S.data.length := by simpa [DS.lay] using hi
  rw [vis_at _ hi, at_set, vis_len, vis_at S hi2]
  simp only [DS.lay, List.getElem?_set]
  by_cases h : x.1 = i
  · rw [h]
    simp [hi2, ht]
  · simp [h]

theorem vis_tear (S : DS) (k : Nat) (ht : S.torn.length = S.data.length) : ({ S with torn := S.torn.set k true } : DS).vis = S.vis.set k [] := by
  apply ext_at (by simp [vis_len])
  intro i hi
  rw [vis_len] at hi
  have hi2 : i < S.data.length := hi
  rw [vis_at _ hi, at_set, vis_len, vis_at S hi2]
  simp only [List.getElem?_set]
  by_cases h : k = i
  · subst h
    simp [hi2, ht]
  · simp [h]

/-- Blocks laid one behind the other. -/
def putAll (all : List (List UInt8)) (l : List (Nat × List UInt8)) : List (List UInt8) := l.foldl (fun a x => a.set x.1 x.2) all
theorem putAll_len (l : List (Nat × List UInt8)) : ∀ all, (putAll all l).length = all.length := by
  induction l with
  | nil => intro all; rfl
  | cons x l ih => intro all; exact (ih _).trans (by simp)
theorem putAll_append (all : List (List UInt8)) (a b : List (Nat × List UInt8)) : putAll all (a ++ b) = putAll (putAll all a) b := by simp [putAll]

theorem vis_layAll (l : List (Nat × List UInt8)) : ∀ S : DS, S.torn.length = S.data.length → (S.layAll l).vis = putAll S.vis l := by
  induction l with
  | nil => intro S _; rfl
  | cons x l ih =>
    intro S ht
    show ((S.lay x).layAll l).vis = putAll (S.vis.set x.1 x.2) l
    rw [ih _ (by simp [DS.lay, ht]), vis_lay S x ht]

/-- The places of blocks that are written from one on. -/
def seqW (fr : Nat) : List (List UInt8) → List (Nat × List UInt8)
  | [] => []
  | b :: bs => (fr, b) :: seqW (fr + 1) bs

theorem seqW_mem {fr : Nat} {bs : List (List UInt8)} {x : Nat × List UInt8} (h : x ∈ seqW fr bs) : fr ≤ x.1 ∧ x.1 < fr + bs.length ∧ x.2 = at_ bs (x.1 - fr) := by
  induction bs generalizing fr with
  | nil => simp [seqW] at h
  | cons b bs ih =>
    simp only [seqW, List.mem_cons] at h
    rcases h with rfl | h
    · simp [at_]
    · obtain ⟨h1, h2, h3⟩ := ih h
      refine ⟨by omega, by simp; omega, ?_⟩
      rw [h3]
      have e : x.1 - fr = (x.1 - (fr + 1)) + 1 := by omega
      rw [e]; rfl

theorem seqW_append (fr : Nat) (a b : List (List UInt8)) : seqW fr (a ++ b) = seqW fr a ++ seqW (fr + a.length) b := by
  induction a generalizing fr with
  | nil => simp [seqW]
  | cons x a ih => simp [seqW, ih, Nat.add_assoc, Nat.add_comm 1]

theorem putAll_seqW {fr : Nat} {bs : List (List UInt8)} : ∀ {all : List (List UInt8)}, fr + bs.length ≤ all.length → ∀ i, at_ (putAll all (seqW fr bs)) i = if fr ≤ i ∧ i < fr + bs.length then at_ bs (i - fr) else at_ all i := by
  induction bs generalizing fr with
  | nil => intro all _ i; rw [if_neg (by simp)]; rfl
  | cons b bs ih =>
    intro all h i
    simp only [List.length_cons] at h
    show at_ (putAll (all.set fr b) (seqW (fr + 1) bs)) i = _
    rw [ih (by simp; omega), at_set]
    by_cases h1 : i = fr
    · subst h1
      rw [if_neg (by omega), if_pos ⟨rfl, by omega⟩, if_pos (by simp)]
      simp [at_]
    · by_cases h2 : fr + 1 ≤ i ∧ i < fr + 1 + bs.length
      · rw [if_pos h2, if_pos (by simp; omega)]
        have e : i - fr = (i - (fr + 1)) + 1 := by omega
        rw [e]; rfl
      · rw [if_neg h2, if_neg (by omega), if_neg (by simp; omega)]

/-- What a loss of power may leave: each block as it was, or one of those that were on their way to it, or nothing readable. -/
structure Mix (all : List (List UInt8)) (l : List (Nat × List UInt8)) (all' : List (List UInt8)) : Prop where
  len : all'.length = all.length
  pt : ∀ i, at_ all' i = at_ all i ∨ ∃ x ∈ l, x.1 = i ∧ (at_ all' i = [] ∨ at_ all' i = x.2)

theorem Mix.refl (all : List (List UInt8)) (l : List (Nat × List UInt8)) : Mix all l all := ⟨rfl, fun _ => .inl rfl⟩
theorem Mix.mono {all all' : List (List UInt8)} {l l' : List (Nat × List UInt8)} (h : Mix all l all') (hs : ∀ x ∈ l, x ∈ l') : Mix all l' all' :=
  ⟨h.len, fun i => (h.pt i).imp id (fun ⟨x, hx, h1⟩ => ⟨x, hs x hx, h1⟩)⟩
theorem Mix.out {all all' : List (List UInt8)} {l : List (Nat × List UInt8)} (h : Mix all l all') {i : Nat} (hi : ∀ x ∈ l, x.1 ≠ i) : at_ all' i = at_ all i :=
  (h.pt i).resolve_right (fun ⟨x, hx, h1, _⟩ => hi x hx h1)

/-- What a crash keeps off: data, torn blocks. -/
theorem keepOne_torn (S : DS) (x : (Nat × List UInt8) × Int) (ht : S.torn.length = S.data.length) : (S.keepOne x).torn.length = (S.keepOne x).data.length ∧ (S.keepOne x).data.length = S.data.length := by
  unfold DS.keepOne
  split
  · simp [DS.lay, ht]
  · split <;> simp [ht]

theorem keepOne_mix (S : DS) (x : (Nat × List UInt8) × Int) (ht : S.torn.length = S.data.length) : Mix S.vis [x.1] (S.keepOne x).vis := by
  unfold DS.keepOne
  split
  · rw [vis_lay _ _ ht]
    refine ⟨by simp, fun i => ?_⟩
    rw [at_set]
    by_cases h : x.1.1 = i ∧ x.1.1 < S.vis.length
    · rw [if_pos h]; exact .inr ⟨x.1, by simp, h.1, .inr rfl⟩
    · rw [if_neg h]; exact .inl rfl
  · split
    · rw [vis_tear _ _ ht]
      refine ⟨by simp, fun i => ?_⟩
      rw [at_set]
      by_cases h : x.1.1 = i ∧ x.1.1 < S.vis.length
      · rw [if_pos h]; exact .inr ⟨x.1, by simp, h.1, .inl rfl⟩
      · rw [if_neg h]; exact .inl rfl
    · exact Mix.refl _ _

theorem Mix.trans {a b c : List (List UInt8)} {l : List (Nat × List UInt8)} (h : Mix a l b) (k : Mix b l c) : Mix a l c := by
  refine ⟨k.len.trans h.len, fun i => ?_⟩
  rcases k.pt i with e | e
  · rcases h.pt i with e2 | ⟨x, hx, h1, h2⟩
    · exact .inl (e.trans e2)
    · exact .inr ⟨x, hx, h1, h2.imp (e.trans ·) (e.trans ·)⟩
  · exact .inr e

theorem keepAll_mix (l : List ((Nat × List UInt8) × Int)) (L : List (Nat × List UInt8)) : ∀ S : DS, S.torn.length = S.data.length → (∀ x ∈ l, x.1 ∈ L) → Mix S.vis L (l.foldl DS.keepOne S).vis ∧ (l.foldl DS.keepOne S).data.length = S.data.length ∧ (l.foldl DS.keepOne S).torn.length = S.data.length ∧ (l.foldl DS.keepOne S).wr = S.wr := by
  induction l with
  | nil => intro S ht _; exact ⟨Mix.refl _ _, rfl, ht, rfl⟩
  | cons x l ih =>
    intro S ht hL
    obtain ⟨h1, h2⟩ := keepOne_torn S x ht
    obtain ⟨i1, i2, i3, i4⟩ := ih (S.keepOne x) h1 (fun y hy => hL y (List.mem_cons_of_mem _ hy))
    refine ⟨((keepOne_mix S x ht).mono (fun y hy => by simp at hy; subst hy; exact hL x (by simp))).trans i1, i2.trans h2, i3.trans h2, i4.trans ?_⟩
    unfold DS.keepOne
    split
    · rfl
    · split <;> rfl

/-- Crash: off and plan are gone, nothing is pending; some of what was pending may be there. -/
theorem crash_out {S : DS} (h : S.Ok) (keep : List Int) (hz : (S.crash keep).1 = 0) :
    Mix S.vis S.pend (S.crash keep).2.vis ∧ (S.crash keep).2.off = false ∧ (S.crash keep).2.pend = [] ∧ (S.crash keep).2.pl = false ∧ (S.crash keep).2.data.length = S.data.length ∧ (S.crash keep).2.wr = S.wr := by
  unfold DS.crash at hz ⊢
  by_cases h1 : S.pend.length < keep.length
  · rw [if_pos h1] at hz; simp at hz
  · rw [if_neg h1] at hz ⊢
    by_cases h2 : ¬ ∀ k ∈ keep, 0 ≤ k ∧ k ≤ 2
    · rw [if_pos h2] at hz; simp at hz
    · rw [if_neg h2]
      obtain ⟨i1, i2, i3, i4⟩ := keepAll_mix (S.pend.zip keep) S.pend S h.tl (fun x hx => (List.of_mem_zip hx).1)
      exact ⟨i1, rfl, rfl, rfl, i2, i4⟩

theorem crash_bad {S : DS} (keep : List Int) (hz : (S.crash keep).1 ≠ 0) : (S.crash keep).2 = S := by
  unfold DS.crash at hz ⊢
  split
  · rfl
  · split
    · rfl
    · rename_i h1 h2; rw [if_neg h1, if_neg h2] at hz; simp at hz

theorem crash_nil_zero (S : DS) : (S.crash []).1 = 0 := by
  unfold DS.crash
  rw [if_neg (by simp), if_neg (by simp)]

/-- What a whole sequence of writes and its sync leaves, or the power is off. -/
theorem writeSeq_out (bs : List (List UInt8)) : ∀ (S : DS) (fr : Nat), S.Ok → S.off = false → (∀ b ∈ bs, b.length = 64) → fr + bs.length ≤ S.data.length → 0 ≤ S.wr → S.wr + bs.length < 9223372036854775808 →
    ((S.writeSeq fr bs).1 = 0 ∧ (S.writeSeq fr bs).2.off = false ∧ (S.writeSeq fr bs).2.pend = [] ∧ (S.writeSeq fr bs).2.vis = putAll S.vis (S.pend ++ seqW fr bs) ∧ (S.pl = false → (S.writeSeq fr bs).2.pl = false) ∧
      (S.writeSeq fr bs).2.wr = S.wr + bs.length) ∨
    (S.pl = true ∧ (S.writeSeq fr bs).1 = 22 ∧ (S.writeSeq fr bs).2.off = true ∧ (∀ x ∈ (S.writeSeq fr bs).2.pend, x ∈ S.pend ++ seqW fr bs) ∧ (S.writeSeq fr bs).2.vis = S.vis ∧
      S.wr ≤ (S.writeSeq fr bs).2.wr ∧ (S.writeSeq fr bs).2.wr ≤ S.wr + bs.length) := by
  induction bs with
  | nil =>
    intro S fr h ho _ hfr h0 h1
    have hr : S.ready 0 = 0 := readyI_zero.2 ⟨ho, by omega, by have := h.n0; omega⟩
    unfold DS.writeSeq DS.sync
    rw [if_neg (by rw [hr]; simp)]
    by_cases hg : S.goesB = false
    · right
      rw [if_pos hg]
      have hpl : S.pl = true ∧ S.left = 0 := by
        unfold DS.goesB goesB at hg; simpa using hg
      refine ⟨hpl.1, rfl, by simp [DS.goes, goesOff, hpl], ?_, rfl, by simp [DS.goes], by simp [DS.goes]⟩
      intro x hx
      simpa [DS.goes, seqW] using hx
    · left
      rw [if_neg hg]
      have hg2 : (S.pl && S.left == 0) = false := by unfold DS.goesB goesB at hg; simpa using hg
      have hf := layAll_fields S.pend S.goes
      refine ⟨rfl, ?_, rfl, ?_, ?_, ?_⟩
      · show (S.goes.layAll S.pend).off = false
        rw [hf.2.1]; simp [DS.goes, goesOff, ho, hg2]
      · show (S.goes.layAll S.pend).vis = _
        rw [vis_layAll _ _ (by exact h.tl)]
        have e : S.goes.vis = S.vis := rfl
        rw [e]; simp only [seqW, List.append_nil]
      · intro hp
        show (S.goes.layAll S.pend).pl = false
        rw [hf.2.2.1]; simp [DS.goes, goesPl, hp]
      · show (S.goes.layAll S.pend).wr = _
        rw [hf.2.2.2.2.1]; simp [DS.goes]
  | cons b bs ih =>
    intro S fr h ho hb hfr h0 h1
    simp only [List.length_cons] at hfr h1
    have hr : S.ready fr = 0 := readyI_zero.2 ⟨ho, by omega, by omega⟩
    have hb64 : b.length = 64 := hb b (by simp)
    by_cases hg : S.goesB = false
    · right
      have hpl : S.pl = true ∧ S.left = 0 := by
        unfold DS.goesB goesB at hg; simpa using hg
      have hw : S.write fr b = (22, S.goes) := by
        unfold DS.write
        rw [if_neg (by rw [hr]; simp), if_neg (by simp [hb64]), if_pos hg]
      have e : S.writeSeq fr (b :: bs) = (22, S.goes) := by
        conv => lhs; unfold DS.writeSeq
        rw [hw, if_pos (by simp)]
      rw [e]
      refine ⟨hpl.1, rfl, by simp [DS.goes, goesOff, hpl], fun x hx => List.mem_append_left _ hx, rfl, by simp [DS.goes], by simp [DS.goes]; omega⟩
    · have hg2 : (S.pl && S.left == 0) = false := by unfold DS.goesB goesB at hg; simpa using hg
      have hwr : wrap64 (S.wr + 1) = S.wr + 1 := by unfold wrap64; omega
      obtain ⟨T, hT⟩ : ∃ T : DS, ({ S.goes with pend := S.pend ++ [(fr, b)], wr := S.wr + 1 } : DS) = T := ⟨_, rfl⟩
      have hw : S.write fr b = (0, T) := by
        unfold DS.write
        rw [if_neg (by rw [hr]; simp), if_neg (by simp [hb64]), if_neg hg, hwr, Int.toNat_natCast, hT]
      have e : S.writeSeq fr (b :: bs) = T.writeSeq ((fr + 1 : Nat) : Int) bs := by
        conv => lhs; unfold DS.writeSeq
        rw [hw, if_neg (by simp)]; rfl
      have hok : T.Ok := by
        subst hT
        refine ⟨h.n0, h.n1, h.tl, h.dl, ?_, ?_, ?_⟩
        · intro p hp
          simp only [List.mem_append, List.mem_singleton] at hp
          rcases hp with hp | rfl
          · exact h.pe p hp
          · exact ⟨by show fr < S.data.length; omega, hb64⟩
        · have := h.l0
          simp only [DS.goes, goesLeft]
          split
          · rename_i hh; simp at hh; omega
          · exact this
        · have := h.l1
          simp only [DS.goes, goesLeft]
          split <;> omega
      have ho2 : T.off = false := by subst hT; simp [DS.goes, goesOff, ho, hg2]
      have hpl2 : S.pl = false → T.pl = false := by subst hT; intro hp; simp [DS.goes, goesPl, hp]
      have hpl3 : T.pl = true → S.pl = true := by subst hT; simp only [DS.goes, goesPl]; intro hp; simp at hp; exact hp.1
      have hd : T.data = S.data := by subst hT; rfl
      have ht : T.torn = S.torn := by subst hT; rfl
      have hv : T.vis = S.vis := by unfold DS.vis; rw [hd, ht]
      have hpe : T.pend = S.pend ++ [(fr, b)] := by subst hT; rfl
      have hw2 : T.wr = S.wr + 1 := by subst hT; rfl
      rw [e]
      rcases ih T (fr + 1) hok ho2 (fun x hx => hb x (List.mem_cons_of_mem _ hx)) (by rw [hd]; omega) (by omega) (by rw [hw2]; omega) with ⟨a1, a2, a3, a4, a5, a6⟩ | ⟨a1, a2, a3, a4, a5, a6, a7⟩
      · left
        refine ⟨a1, a2, a3, ?_, fun hp => a5 (hpl2 hp), ?_⟩
        · rw [a4, hv, hpe]
          simp [seqW]
        · rw [a6, hw2]; simp; omega
      · right
        refine ⟨hpl3 a1, a2, a3, ?_, a5.trans hv, by omega, by rw [List.length_cons]; omega⟩
        intro x hx
        have := a4 x hx
        rw [hpe] at this
        simpa [seqW] using this

/-! ### Package log, in plain: what is read of an area on which a record was written, wholly or in part. -/
theorem recHead_iff {A : List (List UInt8)} {g u r : Nat} : recHead A g u r = true ↔ rmIs (at_ A u) = true ∧ rmV (at_ A u) = ⟨g, (rmV (at_ A u)).life, r, 0, (rmV (at_ A u)).long⟩ ∧ u + recN (rmV (at_ A u)).long ≤ A.length := by
  unfold recHead
  simp only [Bool.and_eq_true, decide_eq_true_eq, and_assoc]

theorem recBlock_iff {A : List (List UInt8)} {g u r i : Nat} : recBlock A g u r i = true ↔ rmIs (at_ A (u + i)) = true ∧ rmV (at_ A (u + i)) = ⟨g, (rmV (at_ A u)).life, r, i, (rmV (at_ A u)).long⟩ := by
  unfold recBlock
  simp only [Bool.and_eq_true, decide_eq_true_eq]

theorem recAt_some {A : List (List UInt8)} {g u r n : Nat} {b : List UInt8} (h : recAt A g u r = some (b, n)) :
    n = recN (rmV (at_ A u)).long ∧ b.length = (rmV (at_ A u)).long ∧ recHead A g u r = true ∧ (∀ i, i < n → recBlock A g u r i = true) ∧ b = (recBytes A u n).take (rmV (at_ A u)).long := by
  unfold recAt at h
  split at h
  · rename_i hc
    simp only [Bool.and_eq_true, List.all_eq_true, List.mem_range] at hc
    simp only [Option.some.injEq, Prod.mk.injEq] at h
    obtain ⟨hb, rfl⟩ := h
    refine ⟨rfl, ?_, hc.1, hc.2, hb.symm⟩
    rw [← hb, List.length_take, recBytes_len _ hc.2]
    have := recN_le (long := (rmV (at_ A u)).long)
    omega
  · cases h

theorem recAt_pos {A : List (List UInt8)} {g u r n : Nat} {b : List UInt8} (h : recAt A g u r = some (b, n)) : 1 ≤ n ∧ u + n ≤ A.length ∧ n = recN b.length := by
  obtain ⟨h1, h2, h3, h4, h5⟩ := recAt_some h
  refine ⟨by rw [h1]; exact recN_pos _, by rw [h1]; exact (recHead_iff.1 h3).2.2, by rw [h2]; exact h1⟩

theorem recAt_congr {A A' : List (List UInt8)} {g u r n : Nat} {b : List UInt8} (hl : A'.length = A.length) (h : recAt A g u r = some (b, n)) (he : ∀ i, i < n → at_ A' (u + i) = at_ A (u + i)) : recAt A' g u r = some (b, n) := by
  obtain ⟨h1, h2, h3, h4, h5⟩ := recAt_some h
  have hp := (recAt_pos h).1
  have e0 : at_ A' u = at_ A u := by simpa using he 0 hp
  have a3 : recHead A' g u r = true := by
    have := recHead_iff.1 h3
    exact recHead_iff.2 (by rw [e0, hl]; exact this)
  have a4 : ∀ i, i < recN (rmV (at_ A' u)).long → recBlock A' g u r i = true := by
    intro i hi
    rw [e0, ← h1] at hi
    have := recBlock_iff.1 (h4 i hi)
    exact recBlock_iff.2 (by rw [e0, he i hi]; exact this)
  rw [recAt_all a3 a4, e0, ← h1]
  have e5 : recBytes A' u n = recBytes A u n := by
    unfold recBytes
    congr 1
    apply List.map_congr_left
    intro j hj
    rw [List.mem_range] at hj
    rw [he j hj]
  rw [e5, ← h5]

theorem readFrom_ge (A : List (List UInt8)) (g : Nat) : ∀ f u r, u ≤ (readFrom A g f u r).2
  | 0, u, r => Nat.le_refl _
  | f + 1, u, r => by
    unfold readFrom
    split
    · split
      · exact Nat.le_refl _
      · rename_i b n _
        have := readFrom_ge A g f (u + n) (r + 1)
        simp only; omega
    · exact Nat.le_refl _

/-- How many blocks records take. -/
def sumN (R : List (List UInt8)) : Nat := (R.map fun b => recN b.length).sum
theorem sumN_snoc (R : List (List UInt8)) (b : List UInt8) : sumN (R ++ [b]) = sumN R + recN b.length := by simp [sumN]
theorem sumN_ge (R : List (List UInt8)) : R.length ≤ sumN R := by
  induction R with
  | nil => exact Nat.le_refl _
  | cons b R ih => have := recN_pos b.length; simp [sumN] at ih ⊢; omega

theorem readFrom_sum (A : List (List UInt8)) (g : Nat) : ∀ f u r, (readFrom A g f u r).2 = u + sumN (readFrom A g f u r).1
  | 0, u, r => by simp [readFrom, sumN]
  | f + 1, u, r => by
    by_cases hu : u < A.length
    · cases hr : recAt A g u r with
      | none => rw [readFrom_stop hr]; simp [sumN]
      | some x =>
        obtain ⟨b, n⟩ := x
        rw [readFrom_more hu hr]
        have := readFrom_sum A g f (u + n) (r + 1)
        have h2 := (recAt_pos hr).2.2
        simp only [sumN, List.map_cons, List.sum_cons] at this ⊢
        omega
    · rw [readFrom_end (by omega)]; simp [sumN]

theorem readFrom_le (A : List (List UInt8)) (g : Nat) : ∀ f u r, u ≤ A.length → (readFrom A g f u r).2 ≤ A.length
  | 0, u, r, h => h
  | f + 1, u, r, h => by
    by_cases hu : u < A.length
    · cases hr : recAt A g u r with
      | none => rw [readFrom_stop hr]; exact h
      | some x =>
        obtain ⟨b, n⟩ := x
        rw [readFrom_more hu hr]
        exact readFrom_le A g f (u + n) (r + 1) (recAt_pos hr).2.1
    · rw [readFrom_end (by omega)]; exact h

theorem readFrom_stops {A : List (List UInt8)} {g : Nat} : ∀ {f u r e : Nat} {R : List (List UInt8)}, A.length ≤ u + f → readFrom A g f u r = (R, e) → A.length ≤ e ∨ recAt A g e (r + R.length) = none
  | 0, u, r, e, R, hf, h => by
    simp only [readFrom, Prod.mk.injEq] at h
    obtain ⟨rfl, rfl⟩ := h
    exact .inl (by omega)
  | f + 1, u, r, e, R, hf, h => by
    by_cases hu : u < A.length
    · cases hr : recAt A g u r with
      | none =>
        rw [readFrom_stop hr] at h
        simp only [Prod.mk.injEq] at h
        obtain ⟨rfl, rfl⟩ := h
        exact .inr hr
      | some x =>
        obtain ⟨b, n⟩ := x
        rw [readFrom_more hu hr] at h
        simp only [Prod.mk.injEq] at h
        obtain ⟨rfl, rfl⟩ := h
        have := (recAt_pos hr).1
        have ih := readFrom_stops (A := A) (g := g) (f := f) (u := u + n) (r := r + 1) (e := (readFrom A g f (u + n) (r + 1)).2) (R := (readFrom A g f (u + n) (r + 1)).1) (by omega) rfl
        refine ih.imp id (fun h => ?_)
        rw [List.length_cons, ← h]
        congr 1; omega
    · rw [readFrom_end (by omega)] at h
      simp only [Prod.mk.injEq] at h
      obtain ⟨rfl, rfl⟩ := h
      exact .inl (by omega)

/-- The records at the front stay readable where their blocks stay. -/
theorem readFrom_pre {A A' : List (List UInt8)} {g : Nat} (hl : A'.length = A.length) : ∀ {f u r e : Nat} {R : List (List UInt8)}, readFrom A g f u r = (R, e) → (∀ p, p < e → at_ A' p = at_ A p) →
    readFrom A' g f u r = (R ++ (readFrom A' g (f - R.length) e (r + R.length)).1, (readFrom A' g (f - R.length) e (r + R.length)).2)
  | 0, u, r, e, R, h, _ => by
    simp only [readFrom, Prod.mk.injEq] at h
    obtain ⟨rfl, rfl⟩ := h
    simp
  | f + 1, u, r, e, R, h, he => by
    by_cases hu : u < A.length
    · cases hr : recAt A g u r with
      | none =>
        rw [readFrom_stop hr] at h
        simp only [Prod.mk.injEq] at h
        obtain ⟨rfl, rfl⟩ := h
        simp
      | some x =>
        obtain ⟨b, n⟩ := x
        rw [readFrom_more hu hr] at h
        simp only [Prod.mk.injEq] at h
        obtain ⟨rfl, rfl⟩ := h
        have hge := readFrom_ge A g f (u + n) (r + 1)
        have hr' : recAt A' g u r = some (b, n) := recAt_congr hl hr (fun i hi => he _ (by omega))
        have ih := readFrom_pre hl (f := f) (u := u + n) (r := r + 1) (e := (readFrom A g f (u + n) (r + 1)).2) (R := (readFrom A g f (u + n) (r + 1)).1) rfl he
        rw [readFrom_more (by omega) hr', ih]
        have e1 : f + 1 - (b :: (readFrom A g f (u + n) (r + 1)).1).length = f - (readFrom A g f (u + n) (r + 1)).1.length := by simp
        have e2 : r + (b :: (readFrom A g f (u + n) (r + 1)).1).length = r + 1 + (readFrom A g f (u + n) (r + 1)).1.length := by simp; omega
        rw [e1, e2]
        rfl
    · rw [readFrom_end (by omega)] at h
      simp only [Prod.mk.injEq] at h
      obtain ⟨rfl, rfl⟩ := h
      simp

theorem chunks_flat (b : List UInt8) : ∀ n, ((List.range n).map fun i => (b.drop (i * 40)).take 40 ++ List.replicate (40 - ((b.drop (i * 40)).take 40).length) (0 : UInt8)).flatten = b.take (n * 40) ++ List.replicate (n * 40 - b.length) 0
  | 0 => by simp
  | n + 1 => by
    rw [List.range_succ, List.map_append, List.flatten_append, chunks_flat b n]
    simp only [List.map_cons, List.map_nil, List.flatten_cons, List.flatten_nil, List.append_nil, List.length_take, List.length_drop]
    by_cases h : n * 40 ≤ b.length
    · have e1 : n * 40 - b.length = 0 := by omega
      have e2 : 40 - min 40 (b.length - n * 40) = (n + 1) * 40 - b.length := by omega
      rw [e1, e2, List.replicate_zero, List.append_nil, ← List.append_assoc, Nat.add_mul, Nat.one_mul, List.take_add]
    · have e1 : b.drop (n * 40) = [] := List.drop_eq_nil_of_le (by omega)
      rw [e1, List.take_nil, List.take_of_length_le (show b.length ≤ n * 40 by omega), List.take_of_length_le (show b.length ≤ (n + 1) * 40 by omega), List.nil_append, List.append_assoc, List.replicate_append_replicate]
      congr 2; omega

/-- A record whose blocks all stand is read. -/
theorem recAt_new {A : List (List UInt8)} {g L u r : Nat} {b : List UInt8} (hg : g < 281474976710656) (hL : L < 281474976710656) (hr : r < 4294967296) (hb : b.length ≤ 65536) (hfit : u + recN b.length ≤ A.length)
    (hn : ∀ i, i < recN b.length → at_ A (u + i) = at_ (layB g L r b) i) : recAt A g u r = some (b, recN b.length) := by
  have hm : ∀ i, i < recN b.length → at_ A (u + i) = markB ⟨g, L, r, i, b.length⟩ ((b.drop (i * 40)).take 40) := fun i hi => (hn i hi).trans (layB_at g L r b hi)
  have hv : ∀ i, i < recN b.length → rmV (at_ A (u + i)) = ⟨g, L, r, i, b.length⟩ := fun i hi => by
    rw [hm i hi]; exact rmV_markB (layB_fits hg hL hr hb hi) (List.length_take_le _ _)
  have hi : ∀ i, i < recN b.length → rmIs (at_ A (u + i)) = true := fun i hi => by
    rw [hm i hi]; exact rmIs_markB _ (List.length_take_le _ _)
  have hp := recN_pos b.length
  have v0 : rmV (at_ A u) = ⟨g, L, r, 0, b.length⟩ := by simpa using hv 0 hp
  have i0 : rmIs (at_ A u) = true := by simpa using hi 0 hp
  have a3 : recHead A g u r = true := recHead_iff.2 (by rw [v0]; exact ⟨i0, rfl, hfit⟩)
  have a4 : ∀ i, i < recN (rmV (at_ A u)).long → recBlock A g u r i = true := by
    intro i h
    rw [v0] at h
    exact recBlock_iff.2 (by rw [v0]; exact ⟨hi i h, hv i h⟩)
  rw [recAt_all a3 a4, v0]
  simp only [Option.some.injEq, Prod.mk.injEq, and_true]
  have e : recBytes A u (recN b.length) = b.take (recN b.length * 40) ++ List.replicate (recN b.length * 40 - b.length) 0 := by
    rw [← chunks_flat]
    unfold recBytes
    congr 1
    apply List.map_congr_left
    intro j hj
    rw [List.mem_range] at hj
    rw [hm j hj, drop_markB]
  rw [e, List.take_of_length_le recN_le]
  simp

/-- An area, its records, and what lies behind them. -/
structure Area (A : List (List UInt8)) (g : Nat) (R : List (List UInt8)) (u : Nat) : Prop where
  rd : readFrom A g A.length 0 0 = (R, u)
  st : ∀ p, u ≤ p → p < A.length → rmIs (at_ A p) = true → (rmV (at_ A p)).gen = g → (rmV (at_ A p)).record ≤ R.length

theorem Area.sum {A : List (List UInt8)} {g u : Nat} {R : List (List UInt8)} (h : Area A g R u) : u = sumN R ∧ u ≤ A.length := by
  have h1 := readFrom_sum A g A.length 0 0
  have h2 := readFrom_le A g A.length 0 0 (Nat.zero_le _)
  rw [h.rd] at h1 h2
  exact ⟨by simpa using h1, h2⟩

/-- No block of life L behind the records. -/
def NoLife (A : List (List UInt8)) (g L u : Nat) : Prop := ∀ p, u ≤ p → p < A.length → rmIs (at_ A p) = true → (rmV (at_ A p)).gen = g → (rmV (at_ A p)).life ≠ L

theorem area_none {A : List (List UInt8)} {g : Nat} (h : ∀ p, p < A.length → rmIs (at_ A p) = true → (rmV (at_ A p)).gen ≠ g) (L : Nat) : Area A g [] 0 ∧ NoLife A g L 0 := by
  refine ⟨⟨?_, fun p _ h1 h2 h3 => absurd h3 (h p h1 h2)⟩, fun p _ h1 h2 h3 => absurd h3 (h p h1 h2)⟩
  cases hn : A.length with
  | zero => rfl
  | succ n =>
    refine readFrom_stop (recAt_nohead ?_)
    cases hh : recHead A g 0 0 with
    | false => rfl
    | true =>
      have := recHead_iff.1 hh
      exact absurd (by rw [this.2.1]) (h 0 (by omega) this.1)

/-- The record's blocks all stand: it is read behind the others. -/
theorem area_done {A A' : List (List UInt8)} {g L u : Nat} {R : List (List UInt8)} {b : List UInt8} (hl : A'.length = A.length) (hA : Area A g R u) (hN : NoLife A g L u) (hg : g < 281474976710656) (hL : L < 281474976710656) (hr : R.length < 4294967296) (hb : b.length ≤ 65536)
    (hfit : u + recN b.length ≤ A.length) (out : ∀ p, p < u ∨ u + recN b.length ≤ p → at_ A' p = at_ A p) (inn : ∀ i, i < recN b.length → at_ A' (u + i) = at_ (layB g L R.length b) i) :
    Area A' g (R ++ [b]) (u + recN b.length) ∧ NoLife A' g L (u + recN b.length) := by
  have hp := recN_pos b.length
  have hs := hA.sum
  have hge := sumN_ge R
  have hrec := recAt_new (A := A') hg hL hr hb (by omega) inn
  have hst : ∀ p, u + recN b.length ≤ p → p < A'.length → rmIs (at_ A' p) = true → (rmV (at_ A' p)).gen = g → (rmV (at_ A' p)).record ≤ R.length := by
    intro p h1 h2 h3 h4
    rw [out p (.inr h1)] at h3 h4 ⊢
    exact hA.st p (by omega) (by omega) h3 h4
  refine ⟨⟨?_, fun p h1 h2 h3 h4 => by have := hst p h1 h2 h3 h4; simp; omega⟩, fun p h1 h2 h3 h4 => ?_⟩
  · have e := readFrom_pre hl hA.rd (fun p hp => out p (.inl hp))
    obtain ⟨k, hk⟩ : ∃ k, A.length - R.length = k + 1 := ⟨A.length - R.length - 1, by omega⟩
    rw [hl, e, hk, Nat.zero_add, readFrom_more (by omega) hrec]
    have e2 : readFrom A' g k (u + recN b.length) (R.length + 1) = ([], u + recN b.length) := by
      cases k with
      | zero => rfl
      | succ k =>
        by_cases hu : u + recN b.length < A'.length
        · refine readFrom_stop (recAt_nohead ?_)
          cases hh : recHead A' g (u + recN b.length) (R.length + 1) with
          | false => rfl
          | true =>
            have := recHead_iff.1 hh
            have h2 := hst _ (Nat.le_refl _) hu this.1 (by rw [this.2.1])
            rw [this.2.1] at h2
            exact absurd h2 (by simp)
        · exact readFrom_end (by omega)
    rw [e2]
  · rw [out p (.inr h1)] at h3 h4 ⊢
    exact hN p (by omega) (by omega) h3 h4

/-- Some of the record's blocks stand: it is read whole, or it is not there. -/
theorem area_mix {A A' : List (List UInt8)} {g L u : Nat} {R : List (List UInt8)} {b : List UInt8} (hl : A'.length = A.length) (hA : Area A g R u) (hN : NoLife A g L u) (hg : g < 281474976710656) (hL : L < 281474976710656) (hr : R.length < 4294967296) (hb : b.length ≤ 65536)
    (hfit : u + recN b.length ≤ A.length) (out : ∀ p, p < u ∨ u + recN b.length ≤ p → at_ A' p = at_ A p)
    (inn : ∀ i, i < recN b.length → at_ A' (u + i) = at_ A (u + i) ∨ at_ A' (u + i) = [] ∨ at_ A' (u + i) = at_ (layB g L R.length b) i) :
    Area A' g R u ∨ Area A' g (R ++ [b]) (u + recN b.length) := by
  by_cases hall : ∀ i, i < recN b.length → at_ A' (u + i) = at_ (layB g L R.length b) i
  · exact .inr (area_done hl hA hN hg hL hr hb hfit out hall).1
  · left
    have hp := recN_pos b.length
    have hs := hA.sum
    have hge := sumN_ge R
    have hnew : ∀ i, i < recN b.length → rmV (at_ (layB g L R.length b) i) = ⟨g, L, R.length, i, b.length⟩ := fun i hi => by
      rw [layB_at g L _ b hi]; exact rmV_markB (layB_fits hg hL hr hb hi) (List.length_take_le _ _)
    have hno : recAt A' g u R.length = none := by
      cases hc : recAt A' g u R.length with
      | none => rfl
      | some x =>
        exfalso
        obtain ⟨b', n'⟩ := x
        obtain ⟨h1, h2, h3, h4, h5⟩ := recAt_some hc
        have hp' := (recAt_pos hc).1
        have h0 := recHead_iff.1 h3
        rcases inn 0 hp with e | e | e
        · -- an elder block: the elder record would have been read
          simp only [Nat.add_zero] at e
          have hlf : (rmV (at_ A' u)).life ≠ L := by
            rw [e]
            exact hN u (Nat.le_refl _) (by omega) (by rw [← e]; exact h0.1) (by rw [← e, h0.2.1])
          have hold : ∀ i, i < n' → at_ A (u + i) = at_ A' (u + i) := by
            intro i hi
            by_cases hin : i < recN b.length
            · have hbk := recBlock_iff.1 (h4 i hi)
              rcases inn i hin with e2 | e2 | e2
              · exact e2.symm
              · rw [e2] at hbk; exact absurd hbk.1 (by rw [rmIs_nil]; simp)
              · rw [e2, hnew i hin] at hbk
                have := hbk.2
                simp only [MarkV.mk.injEq] at this
                exact absurd this.2.1.symm hlf
            · exact (out _ (.inr (by omega))).symm
          have hrA := recAt_congr (A := A') (A' := A) hl.symm hc hold
          rcases readFrom_stops (Nat.le_of_eq (by simp)) hA.rd with h | h
          · omega
          · rw [Nat.zero_add] at h; rw [h] at hrA; cases hrA
        · simp only [Nat.add_zero] at e
          rw [e] at h0; exact absurd h0.1 (by rw [rmIs_nil]; simp)
        · simp only [Nat.add_zero] at e
          have hv : rmV (at_ A' u) = ⟨g, L, R.length, 0, b.length⟩ := by rw [e]; exact hnew 0 hp
          have hn' : n' = recN b.length := by rw [h1, hv]
          refine hall fun i hi => ?_
          have hbk := recBlock_iff.1 (h4 i (by omega))
          rw [hv] at hbk
          rcases inn i hi with e2 | e2 | e2
          · rw [e2] at hbk
            exact absurd (by rw [hbk.2]) (hN (u + i) (by omega) (by omega) hbk.1 (by rw [hbk.2]))
          · rw [e2] at hbk; exact absurd hbk.1 (by rw [rmIs_nil]; simp)
          · exact e2
    refine ⟨?_, fun p h1 h2 h3 h4 => ?_⟩
    · have e := readFrom_pre hl hA.rd (fun p hp => out p (.inl hp))
      rw [hl, e, Nat.zero_add]
      obtain ⟨k, hk⟩ : ∃ k, A.length - R.length = k + 1 := ⟨A.length - R.length - 1, by omega⟩
      rw [hk, readFrom_stop hno]
      simp
    · by_cases hin : p < u + recN b.length
      · obtain ⟨i, rfl⟩ : ∃ i, p = u + i := ⟨p - u, by omega⟩
        rcases inn i (by omega) with e | e | e
        · rw [e] at h3 h4 ⊢; exact hA.st _ h1 (by omega) h3 h4
        · rw [e] at h3; exact absurd h3 (by rw [rmIs_nil]; simp)
        · rw [e, hnew i (by omega)]; exact Nat.le_refl _
      · rw [out p (.inr (by omega))] at h3 h4 ⊢
        exact hA.st p h1 (by omega) h3 h4

/-- An area that is untouched. -/
theorem Area.same {A A' : List (List UInt8)} {g u : Nat} {R : List (List UInt8)} (h : Area A g R u) (e : A' = A) : Area A' g R u := by subst e; exact h

/-! ### Package log, in plain: what lies on the disk of a log, and what each call makes of it. -/
/-- The blocks of an area. -/
def areaL (all : List (List UInt8)) (sz ar : Nat) : List (List UInt8) := (all.drop (2 + ar * sz)).take sz

theorem areaL_len {all : List (List UInt8)} {sz ar : Nat} (h : 2 + ar * sz + sz ≤ all.length) : (areaL all sz ar).length = sz := by
  unfold areaL; rw [List.length_take, List.length_drop]; omega
theorem areaL_at {all : List (List UInt8)} {sz ar p : Nat} (hp : p < sz) : at_ (areaL all sz ar) p = at_ all (2 + ar * sz + p) := by
  unfold areaL at_
  rw [List.getD_eq_getElem?_getD, List.getD_eq_getElem?_getD, List.getElem?_take_of_lt hp, List.getElem?_drop]

theorem ar_fit {ar sz n : Nat} (ha : ar ≤ 1) (h : 2 + 2 * sz ≤ n) : 2 + ar * sz + sz ≤ n := by
  have := Nat.mul_le_mul_right sz ha; omega

theorem areaL_same {all all' : List (List UInt8)} {sz ar : Nat} (hl : all'.length = all.length) (hn : 2 + ar * sz + sz ≤ all.length) (h : ∀ p, p < sz → at_ all' (2 + ar * sz + p) = at_ all (2 + ar * sz + p)) : areaL all' sz ar = areaL all sz ar := by
  have e1 := areaL_len hn
  have e2 := areaL_len (all := all') (sz := sz) (ar := ar) (by rw [hl]; exact hn)
  refine ext_at (by rw [e1, e2]) (fun i hi => ?_)
  rw [e2] at hi
  rw [areaL_at hi, areaL_at hi, h i hi]

/-- A log lies there: head h in slot s counts, records R take u blocks. -/
structure Lies (all : List (List UInt8)) (sz s : Nat) (h : HeadV) (R : List (List UInt8)) (u : Nat) : Prop where
  n : 2 + 2 * sz ≤ all.length
  s1 : s ≤ 1
  is : at_ all s = headB h
  fits : HeadFits h
  oth : rhIs (at_ all (1 - s)) = true → (rhV (at_ all (1 - s))).turn < h.turn
  ar : Area (areaL all sz h.area) h.gen R u

theorem Lies.pick {all : List (List UInt8)} {sz s u : Nat} {h : HeadV} {R : List (List UInt8)} (H : Lies all sz s h R u) : headPick all 2 = some (s, h) := by
  have hi : rhIs (at_ all s) = true := by rw [H.is]; exact rhIs_headB H.fits
  have hv : rhV (at_ all s) = h := by rw [H.is]; exact rhV_headB H.fits
  have ho := H.oth
  rcases (show s = 0 ∨ s = 1 by have := H.s1; omega) with rfl | rfl
  · have e1 : headPick all 1 = some (0, h) := by
      unfold headPick headPick; rw [if_pos hi, hv]
    have e2 : headPick all 2 = if rhIs (at_ all 1) && decide (h.turn < (rhV (at_ all 1)).turn) then some (1, rhV (at_ all 1)) else some (0, h) := by
      conv => lhs; unfold headPick
      rw [e1]
    rw [e2, if_neg]
    intro hc
    simp only [Bool.and_eq_true, decide_eq_true_eq] at hc
    have := ho hc.1
    have e : (1 - 0 : Nat) = 1 := rfl
    rw [e] at this
    omega
  · have e : (1 - 1 : Nat) = 0 := rfl
    rw [e] at ho
    cases h0 : rhIs (at_ all 0) with
    | false =>
      have e1 : headPick all 1 = none := by unfold headPick headPick; rw [h0]; rfl
      conv => lhs; unfold headPick
      rw [e1]
      simp only
      rw [if_pos hi, hv]
    | true =>
      have e1 : headPick all 1 = some (0, rhV (at_ all 0)) := by unfold headPick headPick; rw [if_pos h0]
      conv => lhs; unfold headPick
      rw [e1]
      simp only
      rw [if_pos (by rw [hi, hv]; simpa using ho h0), hv]

theorem Lies.arfit {all : List (List UInt8)} {sz s u : Nat} {h : HeadV} {R : List (List UInt8)} (H : Lies all sz s h R u) : 2 + h.area * sz + sz ≤ all.length := ar_fit H.fits.a H.n

/-- Heads aside, the disk is as it was. -/
theorem Lies.calm {all all' : List (List UInt8)} {sz s u : Nat} {h : HeadV} {R : List (List UInt8)} (H : Lies all sz s h R u) (hl : all'.length = all.length) (hs : at_ all' s = at_ all s) (ho : at_ all' (1 - s) = at_ all (1 - s) ∨ at_ all' (1 - s) = [])
    (ha : ∀ p, p < sz → at_ all' (2 + h.area * sz + p) = at_ all (2 + h.area * sz + p)) : Lies all' sz s h R u := by
  refine ⟨by rw [hl]; exact H.n, H.s1, hs.trans H.is, H.fits, fun e => ?_, H.ar.same (areaL_same hl H.arfit ha)⟩
  rcases ho with e1 | e1
  · rw [e1] at e ⊢; exact H.oth e
  · rw [e1, rhIs_nil] at e; cases e

/-- A new head was written. -/
theorem Lies.head {all all' : List (List UInt8)} {sz s u : Nat} {h h' : HeadV} {R R' : List (List UInt8)} {u' : Nat} (H : Lies all sz s h R u) (hf : HeadFits h') (ht : h.turn < h'.turn) (hA : Area (areaL all sz h'.area) h'.gen R' u') (hl : all'.length = all.length)
    (out : ∀ i, i ≠ 1 - s → at_ all' i = at_ all i) (hn : at_ all' (1 - s) = headB h') : Lies all' sz (1 - s) h' R' u' := by
  have s1 := H.s1
  refine ⟨by rw [hl]; exact H.n, by omega, hn, hf, fun _ => ?_, hA.same (areaL_same hl (ar_fit hf.a H.n) (fun p _ => out _ (by omega)))⟩
  have e : 1 - (1 - s) = s := by omega
  rw [e, out s (by omega), H.is, rhV_headB H.fits]
  exact ht

/-- The log that stands open on a disk. -/
structure LiveL (all : List (List UInt8)) (sz : Nat) (V : LogV) (R : List (List UInt8)) (cnt : Nat → Nat) : Prop where
  lies : Lies all sz (1 - V.slot) V.h R V.used
  sl : V.slot ≤ 1
  vs : V.size = sz
  vr : V.records = R.length
  vo : V.over = false
  fresh : NoLife (areaL all sz V.h.area) V.h.gen V.h.life V.used
  gens : ∀ i, i < all.length → rmIs (at_ all i) = true → (rmV (at_ all i)).gen ≤ V.h.gen ∨ 0 < cnt (rmV (at_ all i)).gen

theorem at_mem {l : List (List UInt8)} {i : Nat} (h : i < l.length) : at_ l i ∈ l := by
  unfold at_
  rw [List.getD_eq_getElem?_getD, List.getElem?_eq_getElem h]
  exact List.getElem_mem h

theorem genCnt_zero {all : List (List UInt8)} {g : Nat} (h : genCnt all g = 0) {b : List UInt8} (hb : b ∈ all) (hm : rmIs b = true) : (rmV b).gen ≠ g := by
  intro e
  have := List.countP_eq_zero.1 h b hb
  simp [hm, e] at this
theorem lifeCnt_zero {all : List (List UInt8)} {l : Nat} (h : lifeCnt all l = 0) {b : List UInt8} (hb : b ∈ all) (hm : rmIs b = true) : (rmV b).life ≠ l := by
  intro e
  have := List.countP_eq_zero.1 h b hb
  simp [hm, e] at this
theorem genCnt_pos {all : List (List UInt8)} {b : List UInt8} (hb : b ∈ all) (hm : rmIs b = true) : 0 < genCnt all (rmV b).gen :=
  List.countP_pos_iff.2 ⟨b, hb, by simp [hm]⟩

/-- Format. -/
theorem format_done {all all' : List (List UInt8)} {sz life gen : Nat} (hn : 2 + 2 * sz ≤ all.length) (hg : genCnt all gen = 0) (h1 : life < 1099511627776) (h2 : gen < 1099511627776)
    (e : all' = putAll all (seqW 0 [headB ⟨0, life, gen, 0⟩, headB ⟨1, life, gen, 0⟩])) : LiveL all' sz ⟨⟨1, life, gen, 0⟩, 0, sz, 0, 0, false⟩ [] (genCnt all) := by
  have f0 : HeadFits ⟨0, life, gen, 0⟩ := ⟨by simp, h1, h2, by simp⟩
  have f1 : HeadFits ⟨1, life, gen, 0⟩ := ⟨by simp, h1, h2, by simp⟩
  have hl : all'.length = all.length := by rw [e]; exact putAll_len _ _
  have hat : ∀ i, at_ all' i = if i < 2 then at_ [headB ⟨0, life, gen, 0⟩, headB ⟨1, life, gen, 0⟩] i else at_ all i := by
    intro i
    rw [e, putAll_seqW (by simp; omega)]
    simp
  have a0 : at_ all' 0 = headB ⟨0, life, gen, 0⟩ := by rw [hat]; rfl
  have a1 : at_ all' 1 = headB ⟨1, life, gen, 0⟩ := by rw [hat]; rfl
  have hmk : ∀ i, i < all'.length → rmIs (at_ all' i) = true → at_ all' i ∈ all := by
    intro i hi hm
    rcases (show i = 0 ∨ i = 1 ∨ 2 ≤ i by omega) with rfl | rfl | h
    · rw [a0, rmIs_headB] at hm; cases hm
    · rw [a1, rmIs_headB] at hm; cases hm
    · rw [hat, if_neg (by omega)]; exact at_mem (by omega)
  have hal := areaL_len (all := all') (sz := sz) (ar := 0) (by omega)
  have har := area_none (A := areaL all' sz 0) (g := gen) (fun p hp hm => by
    rw [hal] at hp
    rw [areaL_at hp] at hm ⊢
    exact genCnt_zero hg (hmk _ (by omega) hm) hm) life
  refine ⟨⟨by rw [hl]; exact hn, by simp, a1, f1, fun _ => ?_, har.1⟩, by simp, rfl, rfl, rfl, har.2, fun i hi hm => .inr (genCnt_pos (hmk i hi hm) hm)⟩
  show (rhV (at_ all' 0)).turn < 1
  rw [a0, rhV_headB f0]; simp

theorem seqW_one (k : Nat) (b : List UInt8) : seqW k [b] = [(k, b)] := rfl

theorem set_out {all : List (List UInt8)} {k : Nat} {b : List UInt8} {i : Nat} (h : i ≠ k) : at_ (all.set k b) i = at_ all i := by
  rw [at_set, if_neg (fun e => h e.1.symm)]
theorem set_in {all : List (List UInt8)} {k : Nat} {b : List UInt8} (h : k < all.length) : at_ (all.set k b) k = b := by
  rw [at_set, if_pos ⟨rfl, h⟩]

/-- A mark of a disk on which a head was written stood there before. -/
theorem head_marks {all all' : List (List UInt8)} {k : Nat} {h' : HeadV} (hl : all'.length = all.length) (out : ∀ i, i ≠ k → at_ all' i = at_ all i) (hn : at_ all' k = headB h') {i : Nat} (_hi : i < all'.length) (hm : rmIs (at_ all' i) = true) :
    at_ all' i = at_ all i ∧ i < all.length := by
  by_cases e : i = k
  · subst e; rw [hn, rmIs_headB] at hm; cases hm
  · exact ⟨out i e, by omega⟩

/-- Open. -/
theorem open_done {all all' : List (List UInt8)} {sz s u L : Nat} {h : HeadV} {R : List (List UInt8)} (H : Lies all sz s h R u) (hL : lifeCnt all L = 0) (hf : HeadFits ⟨h.turn + 1, L, h.gen, h.area⟩)
    (e : all' = putAll all (seqW (1 - s) [headB ⟨h.turn + 1, L, h.gen, h.area⟩])) : LiveL all' sz ⟨⟨h.turn + 1, L, h.gen, h.area⟩, s, sz, u, R.length, false⟩ R (genCnt all) := by
  have s1 := H.s1
  have hn := H.n
  have e' : all' = all.set (1 - s) (headB ⟨h.turn + 1, L, h.gen, h.area⟩) := e
  have hl : all'.length = all.length := by rw [e']; simp
  have out : ∀ i, i ≠ 1 - s → at_ all' i = at_ all i := fun i hi => by rw [e']; exact set_out hi
  have hnw : at_ all' (1 - s) = headB ⟨h.turn + 1, L, h.gen, h.area⟩ := by rw [e']; exact set_in (by omega)
  have hl2 := H.head (h' := ⟨h.turn + 1, L, h.gen, h.area⟩) hf (by simp) H.ar hl out hnw
  have hal := areaL_len (all := all') (sz := sz) (ar := h.area) (by rw [hl]; exact H.arfit)
  refine ⟨hl2, s1, rfl, rfl, rfl, fun p h1 h2 hm hg => ?_, fun i hi hm => .inr ?_⟩
  · show (rmV (at_ (areaL all' sz h.area) p)).life ≠ L
    have h2 : p < sz := hal ▸ h2
    have hm : rmIs (at_ (areaL all' sz h.area) p) = true := hm
    rw [areaL_at h2] at hm ⊢
    have := head_marks hl out hnw (by rw [hl]; have := H.arfit; omega) hm
    rw [this.1] at hm ⊢
    exact lifeCnt_zero hL (at_mem this.2) hm
  · have := head_marks hl out hnw hi hm
    rw [this.1] at hm ⊢
    exact genCnt_pos (at_mem this.2) hm

theorem open_fail {all all' : List (List UInt8)} {sz s u L : Nat} {h : HeadV} {R : List (List UInt8)} (H : Lies all sz s h R u) (hf : HeadFits ⟨h.turn + 1, L, h.gen, h.area⟩)
    (hm : Mix all (seqW (1 - s) [headB ⟨h.turn + 1, L, h.gen, h.area⟩]) all') : Lies all' sz s h R u ∨ Lies all' sz (1 - s) ⟨h.turn + 1, L, h.gen, h.area⟩ R u := by
  have s1 := H.s1
  have out : ∀ i, i ≠ 1 - s → at_ all' i = at_ all i := fun i hi => hm.out (fun x hx e => by simp [seqW_one] at hx; subst hx; exact hi e.symm)
  rcases hm.pt (1 - s) with e | ⟨x, hx, -, e | e⟩
  · exact .inl (H.calm hm.len (out s (by omega)) (.inl e) (fun p _ => out _ (by omega)))
  · exact .inl (H.calm hm.len (out s (by omega)) (.inr e) (fun p _ => out _ (by omega)))
  · simp only [seqW_one, List.mem_singleton] at hx
    subst hx
    exact .inr (H.head hf (by simp) H.ar hm.len out e)

theorem seq_out {all all' : List (List UInt8)} {fr : Nat} {bs : List (List UInt8)} (hm : Mix all (seqW fr bs) all') {i : Nat} (h : i < fr ∨ fr + bs.length ≤ i) : at_ all' i = at_ all i :=
  hm.out (fun x hx e => by have := seqW_mem hx; omega)
theorem seq_in {all all' : List (List UInt8)} {fr : Nat} {bs : List (List UInt8)} (hm : Mix all (seqW fr bs) all') (i : Nat) : at_ all' (fr + i) = at_ all (fr + i) ∨ at_ all' (fr + i) = [] ∨ at_ all' (fr + i) = at_ bs i := by
  rcases hm.pt (fr + i) with e | ⟨x, hx, h1, e | e⟩
  · exact .inl e
  · exact .inr (.inl e)
  · have := (seqW_mem hx).2.2
    rw [h1, Nat.add_sub_cancel_left] at this
    exact .inr (.inr (e.trans this))

/-- The record of an Append, or of a Checkpoint, has its numbers' room. -/
structure RecFits (V : LogV) (R : List (List UInt8)) (b : List UInt8) : Prop where
  l : V.h.life < 281474976710656
  r : R.length < 4294967296
  b : b.length ≤ 65536

theorem LiveL.rfits {all : List (List UInt8)} {sz : Nat} {V : LogV} {R : List (List UInt8)} {cnt : Nat → Nat} (H : LiveL all sz V R cnt) (hn : all.length ≤ 16384) {b : List UInt8} (hb : b.length ≤ 65536) : RecFits V R b := by
  have h1 := H.lies.ar.sum
  have h2 := sumN_ge R
  have h3 := areaL_len H.lies.arfit
  have h4 := H.lies.n
  exact ⟨by have := H.lies.fits.l; omega, by omega, hb⟩

theorem append_done {all all' : List (List UInt8)} {sz : Nat} {V : LogV} {R : List (List UInt8)} {cnt : Nat → Nat} (H : LiveL all sz V R cnt) {b : List UInt8} (hf : RecFits V R b) (hfit : V.used + recN b.length ≤ sz)
    (e : all' = putAll all (seqW (2 + V.h.area * sz + V.used) (layB V.h.gen V.h.life R.length b))) : LiveL all' sz { V with used := V.used + recN b.length, records := V.records + 1 } (R ++ [b]) cnt := by
  have hn := H.lies.arfit
  have hl : all'.length = all.length := by rw [e]; exact putAll_len _ _
  have hat : ∀ i, at_ all' i = if 2 + V.h.area * sz + V.used ≤ i ∧ i < 2 + V.h.area * sz + V.used + recN b.length then at_ (layB V.h.gen V.h.life R.length b) (i - (2 + V.h.area * sz + V.used)) else at_ all i := by
    intro i
    rw [e, putAll_seqW (by rw [layB_len]; omega), layB_len]
  have out : ∀ i, i < 2 + V.h.area * sz + V.used ∨ 2 + V.h.area * sz + V.used + recN b.length ≤ i → at_ all' i = at_ all i := fun i hi => by rw [hat, if_neg (by omega)]
  have hA := areaL_len (all := all) (sz := sz) (ar := V.h.area) hn
  have hA' := areaL_len (all := all') (sz := sz) (ar := V.h.area) (by rw [hl]; exact hn)
  have s1 := H.lies.s1
  have hd := area_done (A := areaL all sz V.h.area) (A' := areaL all' sz V.h.area) (by rw [hA, hA']) H.lies.ar H.fresh (by have := H.lies.fits.g; omega) hf.l hf.r hf.b (by rw [hA]; exact hfit)
    (fun p hp => by
      by_cases h : p < sz
      · rw [areaL_at h, areaL_at h]; exact out _ (by omega)
      · rw [at_len (by omega), at_len (by omega)])
    (fun i hi => by
      rw [areaL_at (by omega), hat, if_pos (by omega)]
      congr 1; omega)
  refine ⟨⟨by rw [hl]; exact H.lies.n, s1, (out _ (.inl (by omega))).trans H.lies.is, H.lies.fits, fun h => ?_, hd.1⟩, H.sl, H.vs, by simp [H.vr], H.vo, hd.2, fun i hi hm => ?_⟩
  · have e1 := out (1 - (1 - V.slot)) (.inl (by omega))
    have h : rhIs (at_ all' (1 - (1 - V.slot))) = true := h
    rw [e1] at h
    show (rhV (at_ all' (1 - (1 - V.slot)))).turn < _
    rw [e1]; exact H.lies.oth h
  · by_cases hin : 2 + V.h.area * sz + V.used ≤ i ∧ i < 2 + V.h.area * sz + V.used + recN b.length
    · left
      rw [hat, if_pos hin, layB_at _ _ _ _ (by omega), rmV_markB (layB_fits (by have := H.lies.fits.g; omega) hf.l hf.r hf.b (by omega)) (List.length_take_le _ _)]
      exact Nat.le_refl _
    · rw [hat, if_neg hin] at hm ⊢
      exact H.gens i (by omega) hm

theorem append_fail {all all' : List (List UInt8)} {sz : Nat} {V : LogV} {R : List (List UInt8)} {cnt : Nat → Nat} (H : LiveL all sz V R cnt) {b : List UInt8} (hf : RecFits V R b) (hfit : V.used + recN b.length ≤ sz)
    (hm : Mix all (seqW (2 + V.h.area * sz + V.used) (layB V.h.gen V.h.life R.length b)) all') : Lies all' sz (1 - V.slot) V.h R V.used ∨ Lies all' sz (1 - V.slot) V.h (R ++ [b]) (V.used + recN b.length) := by
  have hn := H.lies.arfit
  have hl := hm.len
  have out : ∀ i, i < 2 + V.h.area * sz + V.used ∨ 2 + V.h.area * sz + V.used + recN b.length ≤ i → at_ all' i = at_ all i := fun i hi => seq_out hm (by rw [layB_len]; exact hi)
  have hA := areaL_len (all := all) (sz := sz) (ar := V.h.area) hn
  have hA' := areaL_len (all := all') (sz := sz) (ar := V.h.area) (by rw [hl]; exact hn)
  have s1 := H.lies.s1
  have hd := area_mix (A := areaL all sz V.h.area) (A' := areaL all' sz V.h.area) (by rw [hA, hA']) H.lies.ar H.fresh (by have := H.lies.fits.g; omega) hf.l hf.r hf.b (by rw [hA]; exact hfit)
    (fun p hp => by
      by_cases h : p < sz
      · rw [areaL_at h, areaL_at h]; exact out _ (by omega)
      · rw [at_len (by omega), at_len (by omega)])
    (fun i hi => by
      rw [areaL_at (by omega), areaL_at (by omega)]
      have := seq_in hm i
      rw [Nat.add_assoc] at this
      exact this)
  have hoth : rhIs (at_ all' (1 - (1 - V.slot))) = true → (rhV (at_ all' (1 - (1 - V.slot)))).turn < V.h.turn := fun h => by
    have e1 := out (1 - (1 - V.slot)) (.inl (by omega))
    rw [e1] at h ⊢
    exact H.lies.oth h
  have his := (out (1 - V.slot) (.inl (by omega))).trans H.lies.is
  exact hd.imp (fun h => ⟨by rw [hl]; exact H.lies.n, s1, his, H.lies.fits, hoth, h⟩) (fun h => ⟨by rw [hl]; exact H.lies.n, s1, his, H.lies.fits, hoth, h⟩)

/-- The other area was written: the record stands there, under a generation of its own. -/
theorem check_lay {all all' : List (List UInt8)} {sz : Nat} {V : LogV} {R : List (List UInt8)} {cnt : Nat → Nat} (H : LiveL all sz V R cnt) {b : List UInt8} (hf : RecFits V R b) (hfit : recN b.length ≤ sz) {g : Nat} (hg : V.h.gen < g) (hc : cnt g = 0) (hg2 : g < 281474976710656)
    (e : all' = putAll all (seqW (2 + (1 - V.h.area) * sz) (layB g V.h.life 0 b))) :
    Lies all' sz (1 - V.slot) V.h R V.used ∧ Area (areaL all' sz (1 - V.h.area)) g [b] (recN b.length) ∧ NoLife (areaL all' sz (1 - V.h.area)) g V.h.life (recN b.length) ∧
      ∀ i, i < all'.length → rmIs (at_ all' i) = true → (rmV (at_ all' i)).gen ≤ g ∨ 0 < cnt (rmV (at_ all' i)).gen := by
  have hn := H.lies.arfit
  have hno : 2 + (1 - V.h.area) * sz + sz ≤ all.length := ar_fit (by omega) H.lies.n
  have hl : all'.length = all.length := by rw [e]; exact putAll_len _ _
  have hat : ∀ i, at_ all' i = if 2 + (1 - V.h.area) * sz ≤ i ∧ i < 2 + (1 - V.h.area) * sz + recN b.length then at_ (layB g V.h.life 0 b) (i - (2 + (1 - V.h.area) * sz)) else at_ all i := by
    intro i
    rw [e, putAll_seqW (by rw [layB_len]; omega), layB_len]
  have out : ∀ i, i < 2 + (1 - V.h.area) * sz ∨ 2 + (1 - V.h.area) * sz + recN b.length ≤ i → at_ all' i = at_ all i := fun i hi => by rw [hat, if_neg (by omega)]
  have hA := areaL_len (all := all) (sz := sz) (ar := 1 - V.h.area) hno
  have hA' := areaL_len (all := all') (sz := sz) (ar := 1 - V.h.area) (by rw [hl]; exact hno)
  have s1 := H.lies.s1
  have a1 := H.lies.fits.a
  have hng : ∀ i, i < all.length → rmIs (at_ all i) = true → (rmV (at_ all i)).gen ≠ g := fun i hi hm e => by
    rcases H.gens i hi hm with h | h
    · omega
    · rw [e, hc] at h; omega
  obtain ⟨n1, n2⟩ := area_none (A := areaL all sz (1 - V.h.area)) (g := g) (fun p hp hm => by
    rw [hA] at hp
    rw [areaL_at hp] at hm ⊢
    exact hng _ (by omega) hm) V.h.life
  have hd := area_done (A := areaL all sz (1 - V.h.area)) (A' := areaL all' sz (1 - V.h.area)) (R := []) (u := 0) (b := b) (by rw [hA, hA']) n1 n2 hg2 hf.l (by simp) hf.b (by rw [hA]; omega)
    (fun p hp => by
      by_cases h : p < sz
      · rw [areaL_at h, areaL_at h]; exact out _ (by omega)
      · rw [at_len (by omega), at_len (by omega)])
    (fun i hi => by
      rw [areaL_at (by omega), hat, if_pos (by omega)]
      congr 1; omega)
  rw [Nat.zero_add] at hd
  refine ⟨H.lies.calm hl (out _ (.inl (by omega))) (.inl (out _ (.inl (by omega)))) (fun p hp => out _ ?_), hd.1, hd.2, fun i hi hm => ?_⟩
  · rcases (show V.h.area = 0 ∨ V.h.area = 1 by omega) with h | h
    · left; rw [h]; simp; omega
    · right; rw [h]; simp; omega
  · by_cases hin : 2 + (1 - V.h.area) * sz ≤ i ∧ i < 2 + (1 - V.h.area) * sz + recN b.length
    · left
      rw [hat, if_pos hin, layB_at _ _ _ _ (by omega), rmV_markB (layB_fits hg2 hf.l (by simp) hf.b (by omega)) (List.length_take_le _ _)]
      exact Nat.le_refl _
    · rw [hat, if_neg hin] at hm ⊢
      exact (H.gens i (by omega) hm).imp (fun h => by omega) id

theorem check_fail1 {all all' : List (List UInt8)} {sz : Nat} {V : LogV} {R : List (List UInt8)} {cnt : Nat → Nat} (H : LiveL all sz V R cnt) {b : List UInt8} (hfit : recN b.length ≤ sz) {g : Nat}
    (hm : Mix all (seqW (2 + (1 - V.h.area) * sz) (layB g V.h.life 0 b)) all') : Lies all' sz (1 - V.slot) V.h R V.used := by
  have hn := H.lies.arfit
  have out : ∀ i, i < 2 + (1 - V.h.area) * sz ∨ 2 + (1 - V.h.area) * sz + recN b.length ≤ i → at_ all' i = at_ all i := fun i hi => seq_out hm (by rw [layB_len]; exact hi)
  have s1 := H.lies.s1
  have a1 := H.lies.fits.a
  refine H.lies.calm hm.len (out _ (.inl (by omega))) (.inl (out _ (.inl (by omega)))) (fun p hp => out _ ?_)
  rcases (show V.h.area = 0 ∨ V.h.area = 1 by omega) with h | h
  · left; rw [h]; simp; omega
  · right; rw [h]; simp; omega

theorem check_done {all all' : List (List UInt8)} {sz : Nat} {V : LogV} {R : List (List UInt8)} {cnt : Nat → Nat} {b : List UInt8} {g : Nat} (hsl : V.slot ≤ 1) (L : Lies all sz (1 - V.slot) V.h R V.used) (A : Area (areaL all sz (1 - V.h.area)) g [b] (recN b.length))
    (N : NoLife (areaL all sz (1 - V.h.area)) g V.h.life (recN b.length)) (G : ∀ i, i < all.length → rmIs (at_ all i) = true → (rmV (at_ all i)).gen ≤ g ∨ 0 < cnt (rmV (at_ all i)).gen)
    (hf : HeadFits ⟨V.h.turn + 1, V.h.life, g, 1 - V.h.area⟩) (e : all' = putAll all (seqW V.slot [headB ⟨V.h.turn + 1, V.h.life, g, 1 - V.h.area⟩])) :
    LiveL all' sz ⟨⟨V.h.turn + 1, V.h.life, g, 1 - V.h.area⟩, 1 - V.slot, sz, recN b.length, 1, false⟩ [b] cnt := by
  have s1 := L.s1
  have hn := L.n
  have es : 1 - (1 - V.slot) = V.slot := by omega
  have e' : all' = all.set V.slot (headB ⟨V.h.turn + 1, V.h.life, g, 1 - V.h.area⟩) := e
  have hl : all'.length = all.length := by rw [e']; simp
  have out : ∀ i, i ≠ V.slot → at_ all' i = at_ all i := fun i hi => by rw [e']; exact set_out hi
  have hnw : at_ all' V.slot = headB ⟨V.h.turn + 1, V.h.life, g, 1 - V.h.area⟩ := by rw [e']; exact set_in (by omega)
  have hl2 := L.head (h' := ⟨V.h.turn + 1, V.h.life, g, 1 - V.h.area⟩) hf (by simp) A hl (by rw [es]; exact out) (by rw [es]; exact hnw)
  have hsame : areaL all' sz (1 - V.h.area) = areaL all sz (1 - V.h.area) := areaL_same hl (ar_fit (by omega) L.n) (fun p _ => out _ (by omega))
  refine ⟨hl2, s1, rfl, rfl, rfl, ?_, fun i hi hm => ?_⟩
  · show NoLife (areaL all' sz (1 - V.h.area)) g V.h.life (recN b.length)
    rw [hsame]; exact N
  · have := head_marks hl out hnw hi hm
    rw [this.1] at hm ⊢
    exact G i this.2 hm

theorem check_fail2 {all all' : List (List UInt8)} {sz : Nat} {V : LogV} {R : List (List UInt8)} {b : List UInt8} {g : Nat} (hsl : V.slot ≤ 1) (L : Lies all sz (1 - V.slot) V.h R V.used) (A : Area (areaL all sz (1 - V.h.area)) g [b] (recN b.length))
    (hf : HeadFits ⟨V.h.turn + 1, V.h.life, g, 1 - V.h.area⟩) (hm : Mix all (seqW V.slot [headB ⟨V.h.turn + 1, V.h.life, g, 1 - V.h.area⟩]) all') :
    Lies all' sz (1 - V.slot) V.h R V.used ∨ Lies all' sz V.slot ⟨V.h.turn + 1, V.h.life, g, 1 - V.h.area⟩ [b] (recN b.length) := by
  have s1 := L.s1
  have es : 1 - (1 - V.slot) = V.slot := by omega
  have out : ∀ i, i ≠ V.slot → at_ all' i = at_ all i := fun i hi => hm.out (fun x hx e => by simp [seqW_one] at hx; subst hx; exact hi e.symm)
  have hL := L.head (h' := ⟨V.h.turn + 1, V.h.life, g, 1 - V.h.area⟩) (all' := all') hf (by simp) A hm.len (by rw [es]; exact out)
  rw [es] at hL
  rcases hm.pt V.slot with e | ⟨x, hx, -, e | e⟩
  · exact .inl (L.calm hm.len (out _ (by omega)) (.inl (by rw [es]; exact e)) (fun p _ => out _ (by omega)))
  · exact .inl (L.calm hm.len (out _ (by omega)) (.inr (by rw [es]; exact e)) (fun p _ => out _ (by omega)))
  · simp only [seqW_one, List.mem_singleton] at hx
    subst hx
    exact .inr (hL e)

end Go.Proofs.Ytflnlpbcmcfblaa
