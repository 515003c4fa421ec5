/-
  Package keystonetop: history.
-/
import Derived.Test.YteldfmgjbgedaaaGreatOp
import Derived.Test.YteldfmgjbgedaaaGreatMjl
namespace Go.Proofs.YteldfmgjbgedaaaGreat
open Go.RowKit Go.Maps

/-- The acts of a history that a range makes; that a transaction makes; all. -/
def rgActs (S : PS) (p : PT) (r : Key × Key) : List (Array Value) := (S.keys.filter (fun k => inR r.1 r.2 k)).map (fun k => rdA p.tx (k, seenL S.vs k p.snap))
def ptActs (S : PS) (p : PT) : List (Array Value) := if p.tx ∈ S.ord then p.rd.map (rdA p.tx) ++ p.wr.map (wrA p.tx) ++ p.rg.flatMap (rgActs S p) else []
def histActs (S : PS) : List (Array Value) := S.l.flatMap (ptActs S)

/-- A history under way: its cell, its acts. -/
structure Hist (w : World) (vo : Value) (wr : World) (va : Value) (A : List (Array Value)) : Prop where
  row : rowOf wr (w.heap.size + 1) = #[vo, va]
  l3 : live wr (w.heap.size + 1) = true
  r2 : rowOf wr w.heap.size = #[.slice none 0 0, .slice none 0 0]
  l2 : live wr w.heap.size = true
  own : OwnRows wr va 4 A (w.heap.size + 2)
  fr : Fr (fun _ => False) w wr

structure Later (w wr : World) (va : Value) (wr' : World) (va' : Value) : Prop where
  fr : Fr (fun i => va.ownBlock = some i ∨ i = w.heap.size + 1) wr wr'
  own : ∀ i, va'.ownBlock = some i → va.ownBlock = some i ∨ wr.heap.size ≤ i

theorem Later.refl (w wr : World) (va : Value) : Later w wr va wr va := ⟨Fr.refl _ _, fun _ h => .inl h⟩
theorem Later.trans {w a b c : World} {va vb vc : Value} (h : Later w a va b vb) (k : Later w b vb c vc) : Later w a va c vc :=
  ⟨h.fr.trans k.fr (fun i hi e => e.elim (fun e => (h.own i e).elim .inl (fun e => by omega)) .inr), fun i hi => (k.own i hi).elim (h.own i) (fun e => .inr (Nat.le_trans h.fr.size e))⟩

theorem Hist.fr0 {w : World} {vo : Value} {wr wr' : World} {va : Value} {A : List (Array Value)} (h : Hist w vo wr va A) (f : Fr (fun _ => False) wr wr') : Hist w vo wr' va A :=
  ⟨(f.row (live_lt h.l3) (fun e => e)).trans h.row, (f.liv (live_lt h.l3) (fun e => e)).trans h.l3, (f.row (live_lt h.l2) (fun e => e)).trans h.r2, (f.liv (live_lt h.l2) (fun e => e)).trans h.l2, h.own.keep f (fun _ _ e => e), h.fr.trans f (fun _ _ e => e)⟩
theorem Later.fr0 {w wr wr' : World} {va : Value} (f : Fr (fun _ => False) wr wr') : Later w wr va wr' va := ⟨f.mono (fun _ _ e => e.elim), fun _ h => .inl h⟩

theorem Hist.push {w : World} {vo : Value} {wr w4 : World} {va va' : Value} {A B : List (Array Value)} (h : Hist w vo wr va A) (f : Fr (fun i => va.ownBlock = some i) wr w4) (ho : OwnRows w4 va' 4 B (w.heap.size + 2)) (hn : ∀ i, va'.ownBlock = some i → va.ownBlock = some i ∨ wr.heap.size ≤ i) :
    Hist w vo (w4.setRow (w.heap.size + 1) #[vo, va']) va' B ∧ Later w wr va (w4.setRow (w.heap.size + 1) #[vo, va']) va' := by
  have n3 : ¬ va.ownBlock = some (w.heap.size + 1) := fun e => by have := (h.own.lt e).1; omega
  have n2 : ¬ va.ownBlock = some w.heap.size := fun e => by have := (h.own.lt e).1; omega
  have l3 := (f.liv (live_lt h.l3) n3).trans h.l3
  have l2 := (f.liv (live_lt h.l2) n2).trans h.l2
  have f2 : Fr (fun i => va.ownBlock = some i ∨ i = w.heap.size + 1) wr (w4.setRow (w.heap.size + 1) #[vo, va']) := (f.mono (fun _ _ e => .inl e)).setRow _ _ (fun _ => .inr rfl)
  refine ⟨⟨rowOf_setRow_same _ _ _ l3, by rw [live_setRow]; exact l3, ?_, by rw [live_setRow]; exact l2, ho.keep ((Fr.refl (fun i => i = w.heap.size + 1) w4).setRow _ _ (fun _ => rfl)) (fun k hk e => by have := (ho.lt hk).1; omega), h.fr.trans f2 (fun k hk e => ?_)⟩, f2, hn⟩
  · rw [rowOf_setRow_ne _ _ _ _ (by omega), f.row (live_lt h.l2) n2]; exact h.r2
  · rcases e with e | e
    · have := (h.own.lt e).1; omega
    · omega

theorem Later.keep {w wr wr' : World} {va va' : Value} (L : Later w wr va wr' va') {b : Nat} {R : Array Value} (hb : w.heap.size + 2 ≤ b) (h : live wr b = true ∧ rowOf wr b = R ∧ va.ownBlock ≠ some b) : live wr' b = true ∧ rowOf wr' b = R ∧ va'.ownBlock ≠ some b := by
  obtain ⟨h1, h2, h3⟩ := h
  have hn : ¬ (va.ownBlock = some b ∨ b = w.heap.size + 1) := fun e => e.elim h3 (fun e => by omega)
  refine ⟨(L.fr.liv (live_lt h1) hn).trans h1, (L.fr.row (live_lt h1) hn).trans h2, fun e => ?_⟩
  rcases L.own b e with e | e
  · exact h3 e
  · have := live_lt h1; omega

theorem storedH {w12 wr : World} {b5 b3 : Nat} {R R' : Array Value} {F : Nat → Prop} (h : rowOf w12 b5 = R ∧ Fr (fun i => F i ∨ i = b3) wr w12) (hn : b5 ≠ b3) : rowOf (w12.setRow b3 R') b5 = R ∧ Fr (fun i => F i ∨ i = b3) wr (w12.setRow b3 R') :=
  ⟨(rowOf_setRow_ne _ _ _ _ hn).trans h.1, h.2.setRow _ _ (fun _ => .inr rfl)⟩

theorem wrA_size (i : Nat) (l : List Key) : ∀ y ∈ l.map (wrA i), y.size = 4 := by
  intro y hy
  obtain ⟨p, -, rfl⟩ := List.mem_map.1 hy
  rfl
theorem rdA_size (i : Nat) (l : List (Key × Nat)) : ∀ y ∈ l.map (rdA i), y.size = 4 := by
  intro y hy
  obtain ⟨p, -, rfl⟩ := List.mem_map.1 hy
  rfl
theorem rgActs_size (S : PS) (p : PT) (r : Key × Key) : ∀ y ∈ rgActs S p r, y.size = 4 := by
  intro y hy
  obtain ⟨k, -, rfl⟩ := List.mem_map.1 hy
  rfl
theorem ptActs_size (S : PS) (p : PT) : ∀ y ∈ ptActs S p, y.size = 4 := by
  intro y hy
  unfold ptActs at hy
  split at hy
  · rw [List.mem_append, List.mem_append] at hy
    rcases hy with (hy | hy) | hy
    · exact rdA_size _ _ y hy
    · exact wrA_size _ _ y hy
    · obtain ⟨r, -, hr⟩ := List.mem_flatMap.1 hy
      exact rgActs_size S p r y hr
  · cases hy

theorem rdA_ones (i : Nat) (l : List (Key × Nat)) : ∀ y ∈ l.map (rdA i), ones y := by
  intro y hy
  obtain ⟨p, -, rfl⟩ := List.mem_map.1 hy
  intro u hu
  simp [rdA] at hu
  rcases hu with rfl | rfl | rfl | rfl <;> rfl

theorem und42 : ∃ fs, Tryz.prog.underlying 42 = some (.struct fs) := by
  have h : (match Tryz.prog.underlying 42 with | some (.struct _) => true | _ => false) = true := by kernel_rfl
  generalize Tryz.prog.underlying 42 = x at h
  match x, h with
  | some (.struct fs), _ => exact ⟨fs, rfl⟩

section
variable {w : World} {cls : Nat → Nat} {pp m : Nat} {S : PS}
set_option maxRecDepth 20000 in
set_option maxHeartbeats 4000000 in
theorem Play.history7 (h : Play w cls pp m S) (hlen : (histActs S).length < 2 ^ 36) :
    Calls Tryz.prog 7 #[.pointer (some ⟨pp, 0, none⟩)] w fun e w' => ∃ va, e = .returned (.agg #[S.vo, va]) ∧ Hid (OwnRows w' va 4 (histActs S) w.heap.size ∧ Fr (fun _ => False) w w') := by
  have hrow := h.row
  have hlp := h.lp
  have hltp := live_lt hlp
  obtain ⟨al, cl, hvl⟩ := h.hl.len
  obtain ⟨ao, co, hvo⟩ := h.ho.len
  rw [List.length_map] at hvl
  rw [natRows_length] at hvo
  have HVO := Lib.hid hvo
  have hnl : S.l.length ≤ 9223372036854775807 := by have := h.hl.max; rw [List.length_map] at this; exact this
  have hnk : S.keys.length ≤ 9223372036854775807 := by have := h.hk.max; rw [strRows_length] at this; exact this
  have HVL := Lib.hid hvl
  obtain ⟨ak, ck, hvk⟩ := h.hk.len
  rw [strRows_length] at hvk
  have HVK := Lib.hid hvk
  rw [hvl, hvo, hvk] at hrow
  have H := Lib.hid h
  have hnp3 : pp ≠ w.heap.size + 1 := by omega
  clear h hvl hvo hvk
  go_enter Tryz.func7, Tryz.ntmps7
  go_wp2_with fail
  go_loopw [22] (fun t22 wr => ∃ (k : Nat) (va : Value), t22 = .int .i64 (k : Nat) ∧ k ≤ S.l.length ∧ Hist w (.slice ao S.ord.length co) wr va ((S.l.take k).flatMap (ptActs S))) (fun t22 _ => S.l.length - (intOf t22).toNat)
  case atStart =>
    refine ⟨0, .slice none 0 0, rfl, Nat.zero_le _, ?_⟩
    have l3 : live ((w.alloc (.cells #[.slice none 0 0, .slice none 0 0] 42)).alloc (.cells #[.slice none 0 0, .slice none 0 0] 42)) (w.heap.size + 1) = true := live_alloc_at _ _ _ _ (by simp)
    have l2 : live ((w.alloc (.cells #[.slice none 0 0, .slice none 0 0] 42)).alloc (.cells #[.slice none 0 0, .slice none 0 0] 42)) w.heap.size = true := by rw [live_alloc_lt _ _ _ (by simp)]; exact live_alloc_at _ _ _ _ rfl
    exact ⟨rowOf_setRow_same _ _ _ l3, by rw [live_setRow]; exact l3, by rw [rowOf_setRow_ne _ _ _ _ (by omega), rowOf_alloc_lt _ _ _ (by simp)]; exact rowOf_alloc_at _ _ _ _ _ rfl, by rw [live_setRow]; exact l2, OwnRows.nil _ _ _, (((Fr.refl _ w).alloc _).alloc _).setNew (by omega) _⟩
  case round =>
    obtain ⟨k, va, rfl, hk, hH⟩ := hrel
    have HH := Lib.hid hH
    have hrp := (hH.fr.row hltp (fun e => e)).trans hrow
    have rh := hH.row
    have lh := hH.l3
    by_cases hlt : k < S.l.length
    · obtain ⟨p, hp⟩ : ∃ p, S.l[k]? = some p := ⟨_, List.getElem?_eq_getElem hlt⟩
      have h1 := H.out.fr0 hH.fr
      have HP := Lib.hid h1
      obtain ⟨g, cg, hvl2, hlg, hg8, -, hsz, c0, c1, c2, c3, c4, c5⟩ := h1.cells hp
      have hgl : Value.slice (some ⟨g, 0, none⟩) S.l.length cg = .slice al S.l.length cl := hvl2.symm.trans HVL.out
      injection hgl with e1 e2 e3
      subst e1 e3
      obtain ⟨a3, d3, hvr⟩ := (h1.hr k p hp).1.len
      obtain ⟨a4, d4, hvg⟩ := (h1.hg k p hp).1.len
      obtain ⟨a5, d5, hvw⟩ := (h1.hw k p hp).1.len
      rw [List.length_map] at hvr hvg
      rw [strRows_length] at hvw
      rw [hvr] at c3
      rw [hvg] at c4
      rw [hvw] at c5
      have HVR := Lib.hid hvr
      have HVG := Lib.hid hvg
      have HVW := Lib.hid hvw
      have HTK : Hid ((S.l.take (k + 1)).flatMap (ptActs S) = (S.l.take k).flatMap (ptActs S) ++ ptActs S p) := Lib.hid (by
        rw [List.take_add_one, hp, List.flatMap_append]; simp)
      have HLT := Lib.hid hlt
      have HPP := Lib.hid hp
      have hki : (k : Int) < (S.l.length : Int) := by omega
      clear hvl2 hvr hvg hvw hH h1 hp
      obtain ⟨A0, hA0⟩ : ∃ A, A = (S.l.take k).flatMap (ptActs S) := ⟨_, rfl⟩
      rw [← hA0] at HH HTK
      have HS0 : Hid (∀ y ∈ A0, y.size = 4) := Lib.hid (fun y hy => by rw [hA0] at hy; obtain ⟨q, -, hq⟩ := List.mem_flatMap.1 hy; exact ptActs_size S q y hq)
      have HBD : Hid (A0.length + (ptActs S p).length < 2 ^ 36) := Lib.hid (by
        have e : histActs S = (A0 ++ ptActs S p) ++ (S.l.drop (k + 1)).flatMap (ptActs S) := by rw [← HTK.out, ← List.flatMap_append, List.take_append_drop]; rfl
        rw [e, List.length_append, List.length_append] at hlen; omega)
      clear hA0
      go_upto_region 5 with fail
      have w1e : ∃ w1, w1 = (wr.alloc (.cells #[.int .i64 0, .int .i64 0, .bool false, .slice none 0 0, .slice none 0 0, .slice none 0 0] 62)).setRow wr.heap.size #[.int .i64 (p.tx : Nat), .int .i64 (p.snap : Nat), .bool p.over, .slice a3 p.rd.length d3, .slice a4 p.rg.length d4, .slice a5 p.wr.length d5] := ⟨_, rfl⟩
      obtain ⟨w1, hw1⟩ := w1e
      rw [← hw1]
      have la : live (wr.alloc (.cells #[.int .i64 0, .int .i64 0, .bool false, .slice none 0 0, .slice none 0 0, .slice none 0 0] 62)) wr.heap.size = true := live_alloc_at _ _ _ _ rfl
      have f1 : Fr (fun _ => False) wr w1 := by rw [hw1]; exact ((Fr.refl _ wr).alloc _).setNew (Nat.le_refl _) _
      have r5 : rowOf w1 wr.heap.size = #[.int .i64 (p.tx : Nat), .int .i64 (p.snap : Nat), .bool p.over, .slice a3 p.rd.length d3, .slice a4 p.rg.length d4, .slice a5 p.wr.length d5] := by rw [hw1]; exact rowOf_setRow_same _ _ _ la
      have l5 : live w1 wr.heap.size = true := by rw [hw1, live_setRow]; exact la
      obtain ⟨b5, hb5⟩ : ∃ b, b = wr.heap.size := ⟨_, rfl⟩
      rw [← hb5] at r5 l5 ⊢
      have HB5 : Hid (w.heap.size + 2 ≤ b5 ∧ va.ownBlock ≠ some b5) := Lib.hid ⟨by rw [hb5]; have := live_lt HH.out.l3; omega, fun e => by have := (HH.out.own.lt e).2; omega⟩
      have HF1 := Lib.hid f1
      have H1 := Lib.hid (HH.out.fr0 f1)
      have hrp1 := (f1.row (Nat.lt_of_lt_of_le hltp HH.out.fr.size) (fun e => e)).trans hrp
      have HC := Lib.hid (contains22 w1.drew ((HVO.out ▸ (HP.out.fr0 f1).ho).keep ((Fr.refl (fun _ => False) w1).drew) (fun _ _ e => e)) p.tx)
      have lt5 := live_lt l5
      have ltp1 := Nat.lt_of_lt_of_le hltp (H1.out.fr.size)
      clear hw1 la f1 hrp rh lh c0 c1 c2 c3 c4 c5 hsz hlg hb5
      go_region_held3 (fun w' => rowOf w' pp = #[.pointer (some ⟨m, 0, none⟩), .slice (some ⟨g, 0, none⟩) S.l.length cg, S.vv, .slice ao S.ord.length co, .slice ak S.keys.length ck] ∧ rowOf w' b5 = #[.int .i64 (p.tx : Nat), .int .i64 (p.snap : Nat), .bool p.over, .slice a3 p.rd.length d3, .slice a4 p.rg.length d4, .slice a5 p.wr.length d5])
        (first | assumption | exact ⟨by rw [rowOf_drew]; assumption, by rw [rowOf_drew]; assumption⟩)
        (first | (go_simp; go_at_call 22; refine HC.out.mono ?_; rintro e w2 ⟨rb, rfl, hrb, hf2⟩; have HRB := Lib.hid hrb; have HFC := Lib.hid hf2; have K5 := And.intro ((hf2.row (g := pp) ltp1 (fun e => e)).trans ((rowOf_drew _ _).trans hrp1)) ((hf2.row (g := b5) lt5 (fun e => e)).trans ((rowOf_drew _ _).trans r5)); clear hrb hf2))
      have FC := (Fr.refl (fun _ => False) w1).drew.trans HFC.out (fun _ _ e => e)
      have H2 := Lib.hid (H1.out.fr0 FC)
      have HF2 := Lib.hid (HF1.out.trans FC (fun _ _ e => e))
      have HP2 := Lib.hid (HP.out.fr0 HF2.out)
      obtain ⟨hrp2, r52⟩ := K5
      have l52 := (FC.liv lt5 (fun e => e)).trans l5
      have ltp2 := Nat.lt_of_lt_of_le ltp1 FC.size
      have lt52 := live_lt l52
      clear FC HFC HC HF1 H1 r5 l5 hrp1 lt5 ltp1
      cases rb with
      | false =>
        have hno : ¬ p.tx ∈ S.ord := fun e => by have := HRB.out.mpr e; cases this
        go_wp2
        go_roundw
        case rel =>
          refine ⟨k + 1, va, by go_num, by have := HLT.out; omega, ?_⟩
          rw [HTK.out, show ptActs S p = [] from if_neg hno, List.append_nil]
          exact H2.out
        case measure => (have := HLT.out; simp only [intOf]; omega)
      | true =>
        have hin : p.tx ∈ S.ord := HRB.out.mp rfl
        have HPA : Hid (ptActs S p = p.rd.map (rdA p.tx) ++ p.wr.map (wrA p.tx) ++ p.rg.flatMap (rgActs S p)) := Lib.hid (if_pos hin)
        have rh2 := H2.out.row
        have lh2 := H2.out.l3
        obtain ⟨ah, ch, hva⟩ := H2.out.own.len
        rw [hva] at rh2
        have HVA := Lib.hid hva
        have hnb : b5 ≠ w.heap.size + 1 := by have := HB5.out.1; omega
        clear hva
        have hbd := HBD.out
        rw [HPA.out, List.length_append, List.length_append, List.length_map, List.length_map] at hbd
        have hb3 : w.heap.size + 2 ≤ w2.heap.size := live_lt lh2
        go_upto_region 7 with (at_builtin; refine wpList_append_many rfl (.tmp 35) (.tmp 37) 40 rfl 69 _ 4 40 Tryz.underlying40 ti69 (.slice ah A0.length ch) A0 (w.heap.size + 2) rfl (HVA.out ▸ H2.out.own) hb3 a3 p.rd.length d3 rfl (p.rd.map (rdA p.tx)) 0 (HVR.out ▸ (HP2.out.hr k p HPP.out).1) (rdA_ones _ _) HS0.out (rdA_size _ _) (by rw [List.length_map]; simp only [maxLen]; omega) (by rw [List.length_map]; omega) ?_; intro v3 w3 ho3 f3 hn3; obtain ⟨a', c', rfl⟩ := ho3.len; have HO3 := Lib.hid ho3; have HF3 : Hid (Fr (fun i => va.ownBlock = some i) w2 w3) := Lib.hid (f3.mono (fun _ _ e => by rw [HVA.out]; exact e)); have HN3 : Hid (∀ i, (Value.slice a' (A0 ++ p.rd.map (rdA p.tx)).length c').ownBlock = some i → va.ownBlock = some i ∨ w2.heap.size ≤ i) := Lib.hid (fun i hi => by rw [HVA.out]; exact hn3 i hi); have n3 : ¬ va.ownBlock = some (w.heap.size + 1) := (fun e => by have := (H2.out.own.lt e).1; omega); have n5 : ¬ va.ownBlock = some b5 := HB5.out.2; have rh3 := (HF3.out.row (live_lt lh2) n3).trans rh2; have lh3 := (HF3.out.liv (live_lt lh2) n3).trans lh2; have r53 := (HF3.out.row lt52 n5).trans r52; have l53 := (HF3.out.liv lt52 n5).trans l52; clear ho3 f3 hn3)
        have h4 := H2.out.push HF3.out HO3.out HN3.out
        rw [List.length_append, List.length_map] at h4
        obtain ⟨H4, L4⟩ := h4
        have P5 := L4.keep HB5.out.1 ⟨l52, r52, HB5.out.2⟩
        generalize w3.setRow (w.heap.size + 1) #[.slice ao S.ord.length co, .slice a' (A0.length + p.rd.length) c'] = w4 at H4 L4 P5 ⊢
        generalize (Value.slice a' (A0.length + p.rd.length) c') = va4 at H4 L4 P5 ⊢
        obtain ⟨A1, hA1⟩ : ∃ A, A = A0 ++ p.rd.map (rdA p.tx) := ⟨_, rfl⟩
        rw [← hA1] at H4
        have HA1 := Lib.hid hA1
        have HS1 : Hid (∀ y ∈ A1, y.size = 4) := Lib.hid (fun y hy => by rw [hA1] at hy; exact (List.mem_append.1 hy).elim (HS0.out y) (rdA_size _ _ y))
        have HL1 : Hid (A1.length = A0.length + p.rd.length) := Lib.hid (by rw [hA1, List.length_append, List.length_map])
        have HH4 := Lib.hid H4
        have HP5 := Lib.hid P5
        have hrp4 := (H4.fr.row hltp (fun e => e)).trans hrow
        have hln5 := P5.2.1
        have hlv5 := live_lt P5.1
        have hwn : p.wr.length ≤ 9223372036854775807 := by have := (HP.out.hw k p HPP.out).1.max; rw [strRows_length] at this; exact this
        have hgn : p.rg.length ≤ 9223372036854775807 := by have := (HP.out.hg k p HPP.out).1.max; rw [List.length_map] at this; exact this
        clear H4 L4 hA1 hrp2 r52 l52 ltp2 lt52 rh2 lh2 hnb hb3 rh3 lh3 r53 l53 n3 n5 HO3 HF3 HN3 P5 HRB H2 HF2 HP2 HH HVA
        go_wp2_with fail
        go_loopw [43] (fun t43 wr => ∃ (j : Nat) (va' : Value), t43 = .int .i64 (j : Nat) ∧ j ≤ p.wr.length ∧ Hist w (.slice ao S.ord.length co) wr va' (A1 ++ (p.wr.take j).map (wrA p.tx)) ∧ Later w w4 va4 wr va') (fun t43 _ => p.wr.length - (intOf t43).toNat)
        case atStart => exact ⟨0, va4, rfl, Nat.zero_le _, by simpa using HH4.out, Later.refl _ _ _⟩
        case round =>
          obtain ⟨j, vb, rfl, hj, hH, hL⟩ := hrel
          have P6 := hL.keep HB5.out.1 HP5.out
          have HP6 := Lib.hid P6
          have HH6 := Lib.hid hH
          have HL6 := Lib.hid hL
          have rh6 := hH.row
          have lh6 := hH.l3
          have r56 := P6.2.1
          have lt56 := live_lt P6.1
          by_cases hjt : j < p.wr.length
          · have hww := ((H.out.fr0 hH.fr).hw k p HPP.out).1
            rw [HVW.out] at hww
            obtain ⟨gw, rfl, -, hlgw, -, -, -, hget⟩ := hww.get (k := j) (by rw [strRows_length]; exact hjt)
            have hrow2 : (strRows p.wr)[j]'(by rw [strRows_length]; exact hjt) = #[.string ⟨p.wr[j].toArray⟩] := by simp [strRows]
            have y0 : (rowOf wr gw)[j]? = some (.string ⟨p.wr[j].toArray⟩) := by have := hget 0 (by omega); rw [hrow2] at this; simpa using this
            have HTJ : Hid (A1 ++ (p.wr.take (j + 1)).map (wrA p.tx) = (A1 ++ (p.wr.take j).map (wrA p.tx)) ++ [wrA p.tx p.wr[j]]) := Lib.hid (by rw [List.take_succ_eq_append_getElem hjt, List.map_append, List.append_assoc]; rfl)
            have HJT := Lib.hid hjt
            generalize hq : p.wr[j] = u at y0 HTJ
            obtain ⟨Aj, hAj⟩ : ∃ A, A = A1 ++ (p.wr.take j).map (wrA p.tx) := ⟨_, rfl⟩
            have HLJ : Hid (Aj.length = A0.length + p.rd.length + j) := Lib.hid (by rw [hAj, List.length_append, List.length_map, List.length_take, HL1.out]; omega)
            have HSj : Hid (∀ y ∈ Aj, y.size = 4) := Lib.hid (fun y hy => by rw [hAj] at hy; exact (List.mem_append.1 hy).elim (HS1.out y) (wrA_size _ _ y))
            rw [← hAj] at HH6 HTJ
            obtain ⟨ab, cb, hvb⟩ := HH6.out.own.len
            rw [hvb] at rh6
            have HVB := Lib.hid hvb
            have hji : (j : Int) < (p.wr.length : Int) := by omega
            have hb3 : w.heap.size + 2 ≤ wr.heap.size := live_lt lh6
            have hln6 := hln5
            clear hget hrow2 hq hH hL P6 hAj hvb hww
            go_wp2_with (at_builtin; refine wpList_append_one rfl (.tmp 48) (.tmp 53) 40 rfl 69 _ 4 40 Tryz.underlying40 ti69 (.slice ab Aj.length cb) Aj (w.heap.size + 2) rfl ((HVB.out ▸ HH6.out.own).keep ((Fr.refl (fun _ => False) wr).alloc _) (fun _ _ h => h)) (by simp; omega) wr.heap.size 1 rfl (wrA p.tx u) (by simp [go_sem]) (by simp [go_sem, wrA]; rfl) (by intro z hz; simp [wrA] at hz; rcases hz with rfl | rfl | rfl | rfl <;> rfl) HSj.out (by have := HLJ.out; simp only [maxLen]; omega) (fitsN (by have := HLJ.out; omega) (by omega)) ?_; intro g' cap' w7 ho7 f7 hn7; have HO7 := Lib.hid ho7; have HF7 : Hid (Fr (fun i => vb.ownBlock = some i) wr w7) := Lib.hid ((((Fr.refl (fun _ => False) wr).alloc _).mono (fun _ _ e => e.elim)).trans f7 (fun _ _ e => by rw [HVB.out]; exact e)); have HN7 : Hid (vb.ownBlock = some g' ∨ wr.heap.size ≤ g') := Lib.hid (hn7.elim (fun e => .inl (by rw [HVB.out]; exact e)) (fun e => .inr (by simp at e; omega))); have n3 : ¬ vb.ownBlock = some (w.heap.size + 1) := (fun e => by have := (HH6.out.own.lt e).1; omega); have n5 : ¬ vb.ownBlock = some b5 := HP6.out.2.2; have rh7 := (HF7.out.row (live_lt lh6) n3).trans rh6; have lh7 := (HF7.out.liv (live_lt lh6) n3).trans lh6; have r57 := (HF7.out.row lt56 n5).trans r56; clear ho7 f7 hn7)
            have h8 := HH6.out.push HF7.out HO7.out (fun i hi => by injection hi with hi; replace hi : g' = i := hi; rw [← hi]; exact HN7.out)
            rw [← HTJ.out] at h8
            go_roundw
            case rel => exact ⟨j + 1, _, by go_num, by have := HJT.out; omega, h8.1, HL6.out.trans h8.2⟩
            case measure => (have := HJT.out; simp only [intOf]; omega)
          · obtain rfl : j = p.wr.length := by omega
            obtain ⟨A2, hA2⟩ : ∃ A, A = A1 ++ p.wr.map (wrA p.tx) := ⟨_, rfl⟩
            have et : (p.wr.take p.wr.length) = p.wr := List.take_of_length_le (Nat.le_refl _)
            rw [et, ← hA2] at HH6
            have HS2 : Hid (∀ y ∈ A2, y.size = 4) := Lib.hid (fun y hy => by rw [hA2] at hy; exact (List.mem_append.1 hy).elim (HS1.out y) (wrA_size _ _ y))
            have HL2 : Hid (A2.length = A0.length + p.rd.length + p.wr.length) := Lib.hid (by rw [hA2, List.length_append, List.length_map, HL1.out])
            have HA2 : Hid (A2 = A0 ++ (p.rd.map (rdA p.tx) ++ p.wr.map (wrA p.tx))) := Lib.hid (by rw [hA2, HA1.out, List.append_assoc])
            clear hH hL et hA2 P6 rh6 lh6
            go_wp2_with fail
            go_loopw [60] (fun t60 w8 => ∃ (j : Nat) (vc : Value), t60 = .int .i64 (j : Nat) ∧ j ≤ p.rg.length ∧ Hist w (.slice ao S.ord.length co) w8 vc (A2 ++ (p.rg.take j).flatMap (rgActs S p)) ∧ Later w wr vb w8 vc) (fun t60 _ => p.rg.length - (intOf t60).toNat)
            case atStart => exact ⟨0, vb, rfl, Nat.zero_le _, by simpa using HH6.out, Later.refl _ _ _⟩
            case round =>
              obtain ⟨j, vc, rfl, hj, hH, hL⟩ := hrel
              have P8 := hL.keep HB5.out.1 HP6.out
              have hrp8 := (hH.fr.row hltp (fun e => e)).trans hrow
              have HH8 := Lib.hid hH
              have HL8 := Lib.hid hL
              have HP8 := Lib.hid P8
              have r58 := P8.2.1
              have lt58 := live_lt P8.1
              by_cases hjt : j < p.rg.length
              · have hgg := ((H.out.fr0 hH.fr).hg k p HPP.out).1
                rw [HVG.out] at hgg
                obtain ⟨gg, hgga, -, hlgg, -, -, -, hget⟩ := hgg.get (k := j) (by rw [List.length_map]; exact hjt)
                subst hgga
                have hrow2 : (p.rg.map (rgA k))[j]'(by rw [List.length_map]; exact hjt) = rgA k p.rg[j] := by simp
                rw [hrow2] at hget
                have y0 := hget 0 (by omega)
                have y1 := hget 1 (by omega)
                have y2 := hget 2 (by omega)
                have y3 := hget 3 (by omega)
                have HTJ : Hid (A2 ++ (p.rg.take (j + 1)).flatMap (rgActs S p) = (A2 ++ (p.rg.take j).flatMap (rgActs S p)) ++ rgActs S p p.rg[j]) := Lib.hid (by rw [List.take_succ_eq_append_getElem hjt, List.flatMap_append, List.append_assoc]; simp)
                have HBJ : Hid ((A2 ++ (p.rg.take j).flatMap (rgActs S p)).length + (rgActs S p p.rg[j]).length < 2 ^ 36) := Lib.hid (by
                  have e : p.rg.flatMap (rgActs S p) = ((p.rg.take j).flatMap (rgActs S p) ++ rgActs S p p.rg[j]) ++ (p.rg.drop (j + 1)).flatMap (rgActs S p) := by
                    have := congrArg (fun l => l.flatMap (rgActs S p)) (List.take_append_drop (j + 1) p.rg)
                    simp only [List.flatMap_append] at this
                    rw [← this, List.take_succ_eq_append_getElem hjt, List.flatMap_append]; simp
                  have hb := hbd
                  rw [e, List.length_append, List.length_append] at hb
                  rw [List.length_append, HL2.out]; omega)
                have HJT := Lib.hid hjt
                generalize p.rg[j] = r at y0 y1 y2 y3 HTJ HBJ
                obtain ⟨A3, hA3⟩ : ∃ A, A = A2 ++ (p.rg.take j).flatMap (rgActs S p) := ⟨_, rfl⟩
                have HS3 : Hid (∀ y ∈ A3, y.size = 4) := Lib.hid (fun y hy => by
                  rw [hA3] at hy
                  rcases List.mem_append.1 hy with hy | hy
                  · exact HS2.out y hy
                  · obtain ⟨q, -, hq⟩ := List.mem_flatMap.1 hy; exact rgActs_size S p q y hq)
                rw [← hA3] at HH8 HTJ HBJ
                replace y0 : (rowOf wr gg)[j * 4]? = some (.int .i64 2) := y0
                replace y1 : (rowOf wr gg)[j * 4 + 1]? = some (.int .i64 (k : Nat)) := y1
                replace y2 : (rowOf wr gg)[j * 4 + 2]? = some (.string ⟨r.1.toArray⟩) := y2
                replace y3 : (rowOf wr gg)[j * 4 + 3]? = some (.string ⟨r.2.toArray⟩) := y3
                have hji : (j : Int) < (p.rg.length : Int) := by omega
                have rh8 := HH8.out.row
                have lh8 := HH8.out.l3
                clear hget hrow2 hH hL P8 hA3 hgg
                go_upto_region 15 with fail
                obtain ⟨w9, hw9⟩ : ∃ w9, w9 = (wr.alloc (.cells #[.int .i64 0, .int .i64 0, .string ⟨#[]⟩, .string ⟨#[]⟩] 37)).setRow wr.heap.size #[.int .i64 2, .int .i64 (k : Nat), .string ⟨r.1.toArray⟩, .string ⟨r.2.toArray⟩] := ⟨_, rfl⟩
                rw [← hw9]
                have la : live (wr.alloc (.cells #[.int .i64 0, .int .i64 0, .string ⟨#[]⟩, .string ⟨#[]⟩] 37)) wr.heap.size = true := live_alloc_at _ _ _ _ rfl
                have f9 : Fr (fun _ => False) wr w9 := by rw [hw9]; exact ((Fr.refl _ wr).alloc _).setNew (Nat.le_refl _) _
                have r9 : rowOf w9 wr.heap.size = #[.int .i64 2, .int .i64 (k : Nat), .string ⟨r.1.toArray⟩, .string ⟨r.2.toArray⟩] := by rw [hw9]; exact rowOf_setRow_same _ _ _ la
                have l9 : live w9 wr.heap.size = true := by rw [hw9, live_setRow]; exact la
                obtain ⟨b9, hb9⟩ : ∃ b, b = wr.heap.size := ⟨_, rfl⟩
                rw [← hb9] at r9 l9 ⊢
                have HB9 : Hid (w.heap.size + 2 ≤ b9) := Lib.hid (by rw [hb9]; exact live_lt lh8)
                have HQ9 : Hid (live w9 b9 = true ∧ rowOf w9 b9 = #[.int .i64 2, .int .i64 (k : Nat), .string ⟨r.1.toArray⟩, .string ⟨r.2.toArray⟩] ∧ vc.ownBlock ≠ some b9) := Lib.hid ⟨l9, r9, fun e => by have := (HH8.out.own.lt e).2; omega⟩
                have HP9 := Lib.hid ((Later.fr0 (w := w) (va := vc) f9).keep HB5.out.1 HP8.out)
                have HH9 := Lib.hid (HH8.out.fr0 f9)
                have HL9 := Lib.hid (HL8.out.trans (Later.fr0 f9))
                have hrp9 := (HH9.out.fr.row hltp (fun e => e)).trans hrow
                have r59 := HP9.out.2.1
                have lt9 := live_lt l9
                clear hw9 la f9 r58 lt58 hrp8 y0 y1 y2 y3 rh8 lh8 l9 hb9 hlgg
                go_wp2_with fail
                go_loopw [69] (fun t69 w10 => ∃ (i : Nat) (vd : Value), t69 = .int .i64 (i : Nat) ∧ i ≤ S.keys.length ∧ Hist w (.slice ao S.ord.length co) w10 vd (A3 ++ ((S.keys.take i).filter (fun x => inR r.1 r.2 x)).map (fun x => rdA p.tx (x, seenL S.vs x p.snap))) ∧ Later w w9 vc w10 vd) (fun t69 _ => S.keys.length - (intOf t69).toNat)
                case atStart => exact ⟨0, vc, rfl, Nat.zero_le _, by simpa using HH9.out, Later.refl _ _ _⟩
                case round =>
                  obtain ⟨i, vd, rfl, hi, hH, hL⟩ := hrel
                  have Q10 := hL.keep HB9.out HQ9.out
                  have P10 := hL.keep HB5.out.1 HP9.out
                  have hrp10 := (hH.fr.row hltp (fun e => e)).trans hrow
                  have HH10 := Lib.hid hH
                  have HL10 := Lib.hid hL
                  have HP10 := Lib.hid P10
                  have HQ10 := Lib.hid Q10
                  have r510 := P10.2.1
                  have lt510 := live_lt P10.1
                  have r910 := Q10.2.1
                  have lt910 := live_lt Q10.1
                  by_cases hit : i < S.keys.length
                  · have hkk := (H.out.fr0 hH.fr).hk
                    rw [HVK.out] at hkk
                    obtain ⟨gk, hgka, -, hlgk, -, -, -, hget⟩ := hkk.get (k := i) (by rw [strRows_length]; exact hit)
                    subst hgka
                    have hrow3 : (strRows S.keys)[i]'(by rw [strRows_length]; exact hit) = #[.string ⟨S.keys[i].toArray⟩] := by simp [strRows]
                    have z0 : (rowOf wr gk)[i]? = some (.string ⟨S.keys[i].toArray⟩) := by have := hget 0 (by omega); rw [hrow3] at this; simpa using this
                    have HTI : Hid (S.keys.take (i + 1) = S.keys.take i ++ [S.keys[i]]) := Lib.hid (List.take_succ_eq_append_getElem hit)
                    have HIT := Lib.hid hit
                    generalize S.keys[i] = u at z0 HTI
                    have hii : (i : Int) < (S.keys.length : Int) := by omega
                    clear hget hrow3 hH hL P10 Q10 hkk
                    -- CASES
                    cases e1 : Op.bytesLess u r.1 with
                    | true =>
                      have hno : inR r.1 r.2 u = false := by unfold inR; rw [e1]; rfl
                      go_upto_region 19 with fail
                      refine ⟨⟨i + 1, vd, by go_num, by have := HIT.out; omega, ?_, HL10.out⟩, by have := HIT.out; simp only [intOf]; omega⟩
                      rw [HTI.out, List.filter_append, List.filter_cons, List.filter_nil, if_neg (by rw [hno]; simp), List.append_nil]
                      exact HH10.out
                    | false =>
                      by_cases e2 : r.2 = []
                      · have hyes : inR r.1 r.2 u = true := by unfold inR; rw [e1, e2]; rfl
                        have HT4 : Hid (A3 ++ ((S.keys.take (i + 1)).filter (fun x => inR r.1 r.2 x)).map (fun x => rdA p.tx (x, seenL S.vs x p.snap)) = (A3 ++ ((S.keys.take i).filter (fun x => inR r.1 r.2 x)).map (fun x => rdA p.tx (x, seenL S.vs x p.snap))) ++ [rdA p.tx (u, seenL S.vs u p.snap)]) := Lib.hid (by
                          rw [HTI.out, List.filter_append, List.filter_cons, List.filter_nil, if_pos hyes, List.map_append, List.append_assoc]; rfl)
                        have HB4 : Hid ((A3 ++ ((S.keys.take i).filter (fun x => inR r.1 r.2 x)).map (fun x => rdA p.tx (x, seenL S.vs x p.snap))).length + 1 < 2 ^ 36 + 1) := Lib.hid (by
                          have e : S.keys.filter (fun x => inR r.1 r.2 x) = ((S.keys.take i).filter (fun x => inR r.1 r.2 x) ++ [u]) ++ (S.keys.drop (i + 1)).filter (fun x => inR r.1 r.2 x) := by
                            have := congrArg (fun l => l.filter (fun x => inR r.1 r.2 x)) (List.take_append_drop (i + 1) S.keys)
                            simp only [List.filter_append] at this
                            rw [← this, HTI.out, List.filter_append, List.filter_cons, List.filter_nil, if_pos hyes]
                          have hb := HBJ.out
                          unfold rgActs at hb
                          rw [List.length_map, e, List.length_append, List.length_append] at hb
                          rw [List.length_append, List.length_map]
                          simp only [List.length_cons, List.length_nil] at hb
                          omega)
                        obtain ⟨A4, hA4⟩ : ∃ A, A = A3 ++ ((S.keys.take i).filter (fun x => inR r.1 r.2 x)).map (fun x => rdA p.tx (x, seenL S.vs x p.snap)) := ⟨_, rfl⟩
                        have HS4 : Hid (∀ y ∈ A4, y.size = 4) := Lib.hid (fun y hy => by
                          rw [hA4] at hy
                          rcases List.mem_append.1 hy with hy | hy
                          · exact HS3.out y hy
                          · obtain ⟨q, -, rfl⟩ := List.mem_map.1 hy; rfl)
                        rw [← hA4] at HH10 HT4 HB4
                        have rh10 := HH10.out.row
                        have lh10 := HH10.out.l3
                        obtain ⟨ae, ce, hve⟩ := HH10.out.own.len
                        rw [hve] at rh10
                        have HVE := Lib.hid hve
                        have HSEEN := Lib.hid ((H.out.fr0 (HH10.out.fr.drew)).seen15 u p.snap)
                        have ltb3 := live_lt lh10
                        clear hA4 hve hyes
                        go_upto_region 19 with fail
                        clear e2
                        have HSTEP : Hid (∀ W W' : World, (rowOf W b5 = #[.int .i64 (p.tx : Nat), .int .i64 (p.snap : Nat), .bool p.over, .slice a3 p.rd.length d3, .slice (some ⟨gg, 0, none⟩) p.rg.length d4, .slice a5 p.wr.length d5] ∧ Fr (fun i => vd.ownBlock = some i ∨ i = w.heap.size + 1) wr W) → Fr (fun _ => False) W W' → (rowOf W' b5 = #[.int .i64 (p.tx : Nat), .int .i64 (p.snap : Nat), .bool p.over, .slice a3 p.rd.length d3, .slice (some ⟨gg, 0, none⟩) p.rg.length d4, .slice a5 p.wr.length d5] ∧ Fr (fun i => vd.ownBlock = some i ∨ i = w.heap.size + 1) wr W')) := Lib.hid (fun W W' hS f => ⟨(f.row (Nat.lt_of_lt_of_le lt510 hS.2.size) (fun e => e)).trans hS.1, hS.2.trans f (fun _ _ e => e.elim)⟩)
                        have hnb9 : b5 ≠ w.heap.size + 1 := by have := HB5.out.1; omega
                        refine wp_region_noPanic ?_
                        refine wp_region_held_drew (S := (fun w' => (rowOf w' b5 = #[.int .i64 (p.tx : Nat), .int .i64 (p.snap : Nat), .bool p.over, .slice a3 p.rd.length d3, .slice (some ⟨gg, 0, none⟩) p.rg.length d4, .slice a5 p.wr.length d5] ∧ Fr (fun i => vd.ownBlock = some i ∨ i = w.heap.size + 1) wr w'))) (by kernel_rfl) ?_ (fun hHeld => ?_)
                        · (try dsimp only)
                          (first | assumption | exact HSTEP.out wr _ ⟨r510, Fr.refl _ _⟩ ((Fr.refl _ wr).drew) | exact HSTO.out _ | exact HSTEP.out _ _ (by assumption) ((Fr.refl _ _).drew) | exact HSTEP.out _ _ (by assumption) ((Fr.refl _ _).alloc _))
                        refine wpAnyH_take (i := 0) (oi := _) (v := ?_) rfl (by kernel_rfl) (by kernel_rfl) (by kernel_rfl) (fun _ _ _ h => h) (Or.inl ⟨by rfl, ?_⟩) (by assumption) ?_
                        rotate_left
                        · intro W hSw
                          (try dsimp only at hSw)
                          go_simp
                          try with_reducible rfl
                        try simp only [Act.put, List.setIfInBounds_toArray]
                        refine wpAnyH_take (i := 2) (oi := _) (v := ?_) rfl (by kernel_rfl) (by kernel_rfl) (by kernel_rfl) (fun _ _ _ h => h) (Or.inl ⟨by rfl, ?_⟩) (by assumption) ?_
                        rotate_left
                        · intro W hSw
                          (try dsimp only at hSw)
                          go_simp
                          try with_reducible rfl
                        try simp only [Act.put]
                        refine wpAnyH_take (i := 3) (oi := _) (v := ?_) rfl (by kernel_rfl) (by kernel_rfl) (by kernel_rfl) (fun _ _ _ h => h) (Or.inl ⟨by rfl, ?_⟩) (by assumption) ?_
                        rotate_left
                        · intro W hSw
                          (try dsimp only at hSw)
                          go_simp
                          try with_reducible rfl
                        try simp only [Act.put]
                        refine wpAnyH_take (i := 4) (oi := _) (v := ?_) rfl (by kernel_rfl) (by kernel_rfl) (by kernel_rfl) (fun _ _ _ h => h) (Or.inl ⟨by rfl, ?_⟩) (by assumption) ?_
                        rotate_left
                        · intro W hSw
                          (try dsimp only at hSw)
                          go_simp
                          try with_reducible rfl
                        try simp only [Act.put]
                        refine wpAnyH_take (i := 5) (oi := _) (v := ?_) rfl (by kernel_rfl) (by kernel_rfl) (by kernel_rfl) (fun _ _ _ h => h) (Or.inl ⟨by rfl, ?_⟩) (by assumption) ?_
                        rotate_left
                        · intro W hSw
                          (try dsimp only at hSw)
                          go_simp
                          try with_reducible rfl
                        try simp only [Act.put]
                        refine wpAnyH_take (i := 6) (oi := _) (v := ?_) rfl (by kernel_rfl) (by kernel_rfl) (by kernel_rfl) (fun _ _ _ h => h) (Or.inl ⟨by rfl, ?_⟩) (by assumption) ?_
                        rotate_left
                        · intro W hSw
                          (try dsimp only at hSw)
                          go_simp
                          try with_reducible rfl
                        try simp only [Act.put]
                        refine wpAnyH_take (i := 7) (oi := _) (v := ?_) rfl (by kernel_rfl) (by kernel_rfl) (by kernel_rfl) (fun _ _ _ h => h) (Or.inl ⟨by rfl, ?_⟩) (by assumption) ?_
                        rotate_left
                        · intro W hSw
                          (try dsimp only at hSw)
                          go_simp
                          try with_reducible rfl
                        try simp only [Act.put]
                        refine wpAnyH_take (i := 8) (oi := _) (v := ?_) rfl (by kernel_rfl) (by kernel_rfl) (by kernel_rfl) (fun _ _ _ h => h) (Or.inl ⟨by rfl, ?_⟩) (by assumption) ?_
                        rotate_left
                        · intro W hSw
                          (try dsimp only at hSw)
                          go_simp
                          try with_reducible rfl
                        try simp only [Act.put]
                        refine wpAnyH_ready (rs := [1, 9]) (by kernel_rfl) (by simp) ?_
                        refine AllReadyH.cons rfl (fun K hK => ?_) ?_
                        · skip
                          go_simp
                          refine hK.out _ _ ?_ (fun hHeld => ?_)
                          · (try dsimp only)
                            (first | assumption | exact HSTEP.out wr _ ⟨r510, Fr.refl _ _⟩ ((Fr.refl _ wr).drew) | exact HSTO.out _ | exact HSTEP.out _ _ (by assumption) ((Fr.refl _ _).drew) | exact HSTEP.out _ _ (by assumption) ((Fr.refl _ _).alloc _))
                          clear hK K
                          refine wpAnyH_ready (rs := [9]) (by kernel_rfl) (by simp) ?_
                          refine AllReadyH.cons rfl (fun K hK => ?_) ?_
                          · skip
                            go_simp; go_at_call 15; refine HSEEN.out.mono ?_; rintro e w11 ⟨rfl, hf⟩; have HF11 := Lib.hid hf; have K11 := HSTEP.out _ _ (HSTEP.out wr _ ⟨r510, Fr.refl _ _⟩ ((Fr.refl _ wr).drew)) hf; have rh11 := (hf.row (g := w.heap.size + 1) ltb3 (fun e => e)).trans ((rowOf_drew _ _).trans rh10); have ltb11 := Nat.lt_of_lt_of_le ltb3 hf.size; clear hf
                            go_wp2_with fail
                            refine hK.out _ _ ?_ (fun hHeld => ?_)
                            · (try dsimp only)
                              (first | assumption | exact HSTEP.out wr _ ⟨r510, Fr.refl _ _⟩ ((Fr.refl _ wr).drew) | exact HSTO.out _ | exact HSTEP.out _ _ (by assumption) ((Fr.refl _ _).drew) | exact HSTEP.out _ _ (by assumption) ((Fr.refl _ _).alloc _))
                            clear hK K
                            refine wpAnyH_take (i := 10) (oi := _) (v := ?_) rfl (by kernel_rfl) (by kernel_rfl) (by kernel_rfl) (fun _ _ _ h => h) (Or.inl ⟨by rfl, ?_⟩) (by assumption) ?_
                            rotate_left
                            · intro W hSw
                              (try dsimp only at hSw)
                              go_simp
                              try with_reducible rfl
                            try simp only [Act.put, List.setIfInBounds_toArray]
                            refine wpAnyH_ready (rs := [11]) (by kernel_rfl) (by simp) ?_
                            refine AllReadyH.cons rfl (fun K hK => ?_) ?_
                            · skip
                              go_simp
                              refine hK.out _ _ ?_ (fun hHeld => ?_)
                              · (try dsimp only)
                                (first | assumption | exact HSTEP.out wr _ ⟨r510, Fr.refl _ _⟩ ((Fr.refl _ wr).drew) | exact HSTO.out _ | exact HSTEP.out _ _ (by assumption) ((Fr.refl _ _).drew) | exact HSTEP.out _ _ (by assumption) ((Fr.refl _ _).alloc _))
                              clear hK K
                              refine wpAnyH_ready (rs := [12]) (by kernel_rfl) (by simp) ?_
                              refine AllReadyH.cons rfl (fun K hK => ?_) ?_
                              · skip
                                refine step_append_one (o := ⟨some 100, _, _, _, _, _⟩) rfl (.tmp 89) (.tmp 99) 40 rfl 69 _ 4 40 Tryz.underlying40 ti69 (.slice ae A4.length ce) A4 (w.heap.size + 2) rfl ((HVE.out ▸ HH10.out.own).keep ((((Fr.refl (fun _ => False) wr).drew).trans HF11.out (fun _ _ h => h)).alloc _) (fun _ _ h => h)) (by simp; omega) w11.heap.size 1 rfl (rdA p.tx (u, seenL S.vs u p.snap)) (by simp [go_sem]) (by simp [go_sem, rdA]; rfl) (by intro z hz; simp [rdA] at hz; rcases hz with rfl | rfl | rfl | rfl <;> rfl) HS4.out (by have := HB4.out; simp only [maxLen]; omega) (fitsN (by have := HB4.out; omega) (by omega)) ?_; intro g' cap' w12 ho f hn; have HO12 := Lib.hid ho; have HF12 : Hid (Fr (fun i => vd.ownBlock = some i) wr w12) := Lib.hid ((((((Fr.refl (fun _ => False) wr).drew).trans HF11.out (fun _ _ h => h)).alloc _).mono (fun _ _ e => e.elim)).trans f (fun _ _ e => by rw [HVE.out]; exact e)); have HN12 : Hid (vd.ownBlock = some g' ∨ wr.heap.size ≤ g') := Lib.hid (hn.elim (fun e => .inl (by rw [HVE.out]; exact e)) (fun e => .inr (by have := HF11.out.size; simp at e this; omega))); have n3 : ¬ vd.ownBlock = some (w.heap.size + 1) := (fun e => by have := (HH10.out.own.lt e).1; omega); have rh12 := (HF12.out.row ltb3 n3).trans rh10; have lh12 := (HF12.out.liv ltb3 n3).trans lh10; have K12 := And.intro ((HF12.out.row lt510 HP10.out.2.2).trans r510) (HF12.out.mono (G := fun i => vd.ownBlock = some i ∨ i = w.heap.size + 1) (fun _ _ e => .inl e)); have HSTO := Lib.hid (fun R => storedH (R' := R) K12 hnb9); clear ho f hn
                                refine hK.out _ _ ?_ (fun hHeld => ?_)
                                · (try dsimp only)
                                  (first | assumption | exact HSTEP.out wr _ ⟨r510, Fr.refl _ _⟩ ((Fr.refl _ wr).drew) | exact HSTO.out _ | exact HSTEP.out _ _ (by assumption) ((Fr.refl _ _).drew) | exact HSTEP.out _ _ (by assumption) ((Fr.refl _ _).alloc _))
                                clear hK K
                                refine wpAnyH_take (i := 13) (oi := _) (v := ?_) rfl (by kernel_rfl) (by kernel_rfl) (by kernel_rfl) (fun _ _ _ h => h) (Or.inl ⟨by rfl, ?_⟩) (by assumption) ?_
                                rotate_left
                                · intro W hSw
                                  (try dsimp only at hSw)
                                  go_simp
                                  try with_reducible rfl
                                try simp only [Act.put, List.setIfInBounds_toArray, List.set_cons_zero, List.set_cons_succ]
                                refine wpAnyH_ready (rs := [14]) (by kernel_rfl) (by simp) ?_
                                refine AllReadyH.cons rfl (fun K hK => ?_) ?_
                                · skip
                                  go_simp
                                  refine hK.out _ _ ?_ (fun hHeld => ?_)
                                  · (try dsimp only)
                                    (first | assumption | exact HSTEP.out wr _ ⟨r510, Fr.refl _ _⟩ ((Fr.refl _ wr).drew) | exact HSTO.out _ | exact HSTEP.out _ _ (by assumption) ((Fr.refl _ _).drew) | exact HSTEP.out _ _ (by assumption) ((Fr.refl _ _).alloc _))
                                  clear hK K
                                  refine wpAnyH_done (by kernel_rfl) ?_ _
                                  refine NoPanic.normal ?_
                                  have h8 := HH10.out.push HF12.out HO12.out (fun i hi => by injection hi with hi; replace hi : g' = i := hi; rw [← hi]; exact HN12.out)
                                  rw [← HT4.out] at h8
                                  have HX8 := Lib.hid h8
                                  clear h8
                                  go_wp2
                                  first
                                    | exact ⟨⟨i + 1, _, by go_num, by have := HIT.out; omega, HX8.out.1, HL10.out.trans HX8.out.2⟩, by have := HIT.out; simp only [intOf]; omega⟩
                                    | (go_roundw
                                       case rel => exact ⟨i + 1, _, by go_num, by have := HIT.out; omega, HX8.out.1, HL10.out.trans HX8.out.2⟩
                                       case measure => (have := HIT.out; simp only [intOf]; omega))
                                exact AllReadyH.nil
                              exact AllReadyH.nil
                            exact AllReadyH.nil
                          exact AllReadyH.nil
                        refine AllReadyH.cons rfl (fun K hK => ?_) ?_
                        · skip
                          go_simp; go_at_call 15; refine HSEEN.out.mono ?_; rintro e w11 ⟨rfl, hf⟩; have HF11 := Lib.hid hf; have K11 := HSTEP.out _ _ (HSTEP.out wr _ ⟨r510, Fr.refl _ _⟩ ((Fr.refl _ wr).drew)) hf; have rh11 := (hf.row (g := w.heap.size + 1) ltb3 (fun e => e)).trans ((rowOf_drew _ _).trans rh10); have ltb11 := Nat.lt_of_lt_of_le ltb3 hf.size; clear hf
                          go_wp2_with fail
                          refine hK.out _ _ ?_ (fun hHeld => ?_)
                          · (try dsimp only)
                            (first | assumption | exact HSTEP.out wr _ ⟨r510, Fr.refl _ _⟩ ((Fr.refl _ wr).drew) | exact HSTO.out _ | exact HSTEP.out _ _ (by assumption) ((Fr.refl _ _).drew) | exact HSTEP.out _ _ (by assumption) ((Fr.refl _ _).alloc _))
                          clear hK K
                          refine wpAnyH_take (i := 10) (oi := _) (v := ?_) rfl (by kernel_rfl) (by kernel_rfl) (by kernel_rfl) (fun _ _ _ h => h) (Or.inl ⟨by rfl, ?_⟩) (by assumption) ?_
                          rotate_left
                          · intro W hSw
                            (try dsimp only at hSw)
                            go_simp
                            try with_reducible rfl
                          try simp only [Act.put, List.setIfInBounds_toArray]
                          refine wpAnyH_ready (rs := [1, 11]) (by kernel_rfl) (by simp) ?_
                          refine AllReadyH.cons rfl (fun K hK => ?_) ?_
                          · skip
                            go_simp
                            refine hK.out _ _ ?_ (fun hHeld => ?_)
                            · (try dsimp only)
                              (first | assumption | exact HSTEP.out wr _ ⟨r510, Fr.refl _ _⟩ ((Fr.refl _ wr).drew) | exact HSTO.out _ | exact HSTEP.out _ _ (by assumption) ((Fr.refl _ _).drew) | exact HSTEP.out _ _ (by assumption) ((Fr.refl _ _).alloc _))
                            clear hK K
                            refine wpAnyH_ready (rs := [11]) (by kernel_rfl) (by simp) ?_
                            refine AllReadyH.cons rfl (fun K hK => ?_) ?_
                            · skip
                              go_simp
                              refine hK.out _ _ ?_ (fun hHeld => ?_)
                              · (try dsimp only)
                                (first | assumption | exact HSTEP.out wr _ ⟨r510, Fr.refl _ _⟩ ((Fr.refl _ wr).drew) | exact HSTO.out _ | exact HSTEP.out _ _ (by assumption) ((Fr.refl _ _).drew) | exact HSTEP.out _ _ (by assumption) ((Fr.refl _ _).alloc _))
                              clear hK K
                              refine wpAnyH_ready (rs := [12]) (by kernel_rfl) (by simp) ?_
                              refine AllReadyH.cons rfl (fun K hK => ?_) ?_
                              · skip
                                refine step_append_one (o := ⟨some 100, _, _, _, _, _⟩) rfl (.tmp 89) (.tmp 99) 40 rfl 69 _ 4 40 Tryz.underlying40 ti69 (.slice ae A4.length ce) A4 (w.heap.size + 2) rfl ((HVE.out ▸ HH10.out.own).keep ((((Fr.refl (fun _ => False) wr).drew).trans HF11.out (fun _ _ h => h)).alloc _) (fun _ _ h => h)) (by simp; omega) w11.heap.size 1 rfl (rdA p.tx (u, seenL S.vs u p.snap)) (by simp [go_sem]) (by simp [go_sem, rdA]; rfl) (by intro z hz; simp [rdA] at hz; rcases hz with rfl | rfl | rfl | rfl <;> rfl) HS4.out (by have := HB4.out; simp only [maxLen]; omega) (fitsN (by have := HB4.out; omega) (by omega)) ?_; intro g' cap' w12 ho f hn; have HO12 := Lib.hid ho; have HF12 : Hid (Fr (fun i => vd.ownBlock = some i) wr w12) := Lib.hid ((((((Fr.refl (fun _ => False) wr).drew).trans HF11.out (fun _ _ h => h)).alloc _).mono (fun _ _ e => e.elim)).trans f (fun _ _ e => by rw [HVE.out]; exact e)); have HN12 : Hid (vd.ownBlock = some g' ∨ wr.heap.size ≤ g') := Lib.hid (hn.elim (fun e => .inl (by rw [HVE.out]; exact e)) (fun e => .inr (by have := HF11.out.size; simp at e this; omega))); have n3 : ¬ vd.ownBlock = some (w.heap.size + 1) := (fun e => by have := (HH10.out.own.lt e).1; omega); have rh12 := (HF12.out.row ltb3 n3).trans rh10; have lh12 := (HF12.out.liv ltb3 n3).trans lh10; have K12 := And.intro ((HF12.out.row lt510 HP10.out.2.2).trans r510) (HF12.out.mono (G := fun i => vd.ownBlock = some i ∨ i = w.heap.size + 1) (fun _ _ e => .inl e)); have HSTO := Lib.hid (fun R => storedH (R' := R) K12 hnb9); clear ho f hn
                                refine hK.out _ _ ?_ (fun hHeld => ?_)
                                · (try dsimp only)
                                  (first | assumption | exact HSTEP.out wr _ ⟨r510, Fr.refl _ _⟩ ((Fr.refl _ wr).drew) | exact HSTO.out _ | exact HSTEP.out _ _ (by assumption) ((Fr.refl _ _).drew) | exact HSTEP.out _ _ (by assumption) ((Fr.refl _ _).alloc _))
                                clear hK K
                                refine wpAnyH_take (i := 13) (oi := _) (v := ?_) rfl (by kernel_rfl) (by kernel_rfl) (by kernel_rfl) (fun _ _ _ h => h) (Or.inl ⟨by rfl, ?_⟩) (by assumption) ?_
                                rotate_left
                                · intro W hSw
                                  (try dsimp only at hSw)
                                  go_simp
                                  try with_reducible rfl
                                try simp only [Act.put, List.setIfInBounds_toArray, List.set_cons_zero, List.set_cons_succ]
                                refine wpAnyH_ready (rs := [14]) (by kernel_rfl) (by simp) ?_
                                refine AllReadyH.cons rfl (fun K hK => ?_) ?_
                                · skip
                                  go_simp
                                  refine hK.out _ _ ?_ (fun hHeld => ?_)
                                  · (try dsimp only)
                                    (first | assumption | exact HSTEP.out wr _ ⟨r510, Fr.refl _ _⟩ ((Fr.refl _ wr).drew) | exact HSTO.out _ | exact HSTEP.out _ _ (by assumption) ((Fr.refl _ _).drew) | exact HSTEP.out _ _ (by assumption) ((Fr.refl _ _).alloc _))
                                  clear hK K
                                  refine wpAnyH_done (by kernel_rfl) ?_ _
                                  refine NoPanic.normal ?_
                                  have h8 := HH10.out.push HF12.out HO12.out (fun i hi => by injection hi with hi; replace hi : g' = i := hi; rw [← hi]; exact HN12.out)
                                  rw [← HT4.out] at h8
                                  have HX8 := Lib.hid h8
                                  clear h8
                                  go_wp2
                                  first
                                    | exact ⟨⟨i + 1, _, by go_num, by have := HIT.out; omega, HX8.out.1, HL10.out.trans HX8.out.2⟩, by have := HIT.out; simp only [intOf]; omega⟩
                                    | (go_roundw
                                       case rel => exact ⟨i + 1, _, by go_num, by have := HIT.out; omega, HX8.out.1, HL10.out.trans HX8.out.2⟩
                                       case measure => (have := HIT.out; simp only [intOf]; omega))
                                exact AllReadyH.nil
                              exact AllReadyH.nil
                            exact AllReadyH.nil
                          refine AllReadyH.cons rfl (fun K hK => ?_) ?_
                          · skip
                            go_simp
                            refine hK.out _ _ ?_ (fun hHeld => ?_)
                            · (try dsimp only)
                              (first | assumption | exact HSTEP.out wr _ ⟨r510, Fr.refl _ _⟩ ((Fr.refl _ wr).drew) | exact HSTO.out _ | exact HSTEP.out _ _ (by assumption) ((Fr.refl _ _).drew) | exact HSTEP.out _ _ (by assumption) ((Fr.refl _ _).alloc _))
                            clear hK K
                            refine wpAnyH_ready (rs := [1]) (by kernel_rfl) (by simp) ?_
                            refine AllReadyH.cons rfl (fun K hK => ?_) ?_
                            · skip
                              go_simp
                              refine hK.out _ _ ?_ (fun hHeld => ?_)
                              · (try dsimp only)
                                (first | assumption | exact HSTEP.out wr _ ⟨r510, Fr.refl _ _⟩ ((Fr.refl _ wr).drew) | exact HSTO.out _ | exact HSTEP.out _ _ (by assumption) ((Fr.refl _ _).drew) | exact HSTEP.out _ _ (by assumption) ((Fr.refl _ _).alloc _))
                              clear hK K
                              refine wpAnyH_ready (rs := [12]) (by kernel_rfl) (by simp) ?_
                              refine AllReadyH.cons rfl (fun K hK => ?_) ?_
                              · skip
                                refine step_append_one (o := ⟨some 100, _, _, _, _, _⟩) rfl (.tmp 89) (.tmp 99) 40 rfl 69 _ 4 40 Tryz.underlying40 ti69 (.slice ae A4.length ce) A4 (w.heap.size + 2) rfl ((HVE.out ▸ HH10.out.own).keep ((((Fr.refl (fun _ => False) wr).drew).trans HF11.out (fun _ _ h => h)).alloc _) (fun _ _ h => h)) (by simp; omega) w11.heap.size 1 rfl (rdA p.tx (u, seenL S.vs u p.snap)) (by simp [go_sem]) (by simp [go_sem, rdA]; rfl) (by intro z hz; simp [rdA] at hz; rcases hz with rfl | rfl | rfl | rfl <;> rfl) HS4.out (by have := HB4.out; simp only [maxLen]; omega) (fitsN (by have := HB4.out; omega) (by omega)) ?_; intro g' cap' w12 ho f hn; have HO12 := Lib.hid ho; have HF12 : Hid (Fr (fun i => vd.ownBlock = some i) wr w12) := Lib.hid ((((((Fr.refl (fun _ => False) wr).drew).trans HF11.out (fun _ _ h => h)).alloc _).mono (fun _ _ e => e.elim)).trans f (fun _ _ e => by rw [HVE.out]; exact e)); have HN12 : Hid (vd.ownBlock = some g' ∨ wr.heap.size ≤ g') := Lib.hid (hn.elim (fun e => .inl (by rw [HVE.out]; exact e)) (fun e => .inr (by have := HF11.out.size; simp at e this; omega))); have n3 : ¬ vd.ownBlock = some (w.heap.size + 1) := (fun e => by have := (HH10.out.own.lt e).1; omega); have rh12 := (HF12.out.row ltb3 n3).trans rh10; have lh12 := (HF12.out.liv ltb3 n3).trans lh10; have K12 := And.intro ((HF12.out.row lt510 HP10.out.2.2).trans r510) (HF12.out.mono (G := fun i => vd.ownBlock = some i ∨ i = w.heap.size + 1) (fun _ _ e => .inl e)); have HSTO := Lib.hid (fun R => storedH (R' := R) K12 hnb9); clear ho f hn
                                refine hK.out _ _ ?_ (fun hHeld => ?_)
                                · (try dsimp only)
                                  (first | assumption | exact HSTEP.out wr _ ⟨r510, Fr.refl _ _⟩ ((Fr.refl _ wr).drew) | exact HSTO.out _ | exact HSTEP.out _ _ (by assumption) ((Fr.refl _ _).drew) | exact HSTEP.out _ _ (by assumption) ((Fr.refl _ _).alloc _))
                                clear hK K
                                refine wpAnyH_take (i := 13) (oi := _) (v := ?_) rfl (by kernel_rfl) (by kernel_rfl) (by kernel_rfl) (fun _ _ _ h => h) (Or.inl ⟨by rfl, ?_⟩) (by assumption) ?_
                                rotate_left
                                · intro W hSw
                                  (try dsimp only at hSw)
                                  go_simp
                                  try with_reducible rfl
                                try simp only [Act.put, List.setIfInBounds_toArray, List.set_cons_zero, List.set_cons_succ]
                                refine wpAnyH_ready (rs := [14]) (by kernel_rfl) (by simp) ?_
                                refine AllReadyH.cons rfl (fun K hK => ?_) ?_
                                · skip
                                  go_simp
                                  refine hK.out _ _ ?_ (fun hHeld => ?_)
                                  · (try dsimp only)
                                    (first | assumption | exact HSTEP.out wr _ ⟨r510, Fr.refl _ _⟩ ((Fr.refl _ wr).drew) | exact HSTO.out _ | exact HSTEP.out _ _ (by assumption) ((Fr.refl _ _).drew) | exact HSTEP.out _ _ (by assumption) ((Fr.refl _ _).alloc _))
                                  clear hK K
                                  refine wpAnyH_done (by kernel_rfl) ?_ _
                                  refine NoPanic.normal ?_
                                  have h8 := HH10.out.push HF12.out HO12.out (fun i hi => by injection hi with hi; replace hi : g' = i := hi; rw [← hi]; exact HN12.out)
                                  rw [← HT4.out] at h8
                                  have HX8 := Lib.hid h8
                                  clear h8
                                  go_wp2
                                  first
                                    | exact ⟨⟨i + 1, _, by go_num, by have := HIT.out; omega, HX8.out.1, HL10.out.trans HX8.out.2⟩, by have := HIT.out; simp only [intOf]; omega⟩
                                    | (go_roundw
                                       case rel => exact ⟨i + 1, _, by go_num, by have := HIT.out; omega, HX8.out.1, HL10.out.trans HX8.out.2⟩
                                       case measure => (have := HIT.out; simp only [intOf]; omega))
                                exact AllReadyH.nil
                              exact AllReadyH.nil
                            exact AllReadyH.nil
                          exact AllReadyH.nil
                        exact AllReadyH.nil
                      · have e2' : r.2.isEmpty = false := by cases h : r.2 with | nil => exact absurd h e2 | cons a l => rfl
                        cases e3 : Op.bytesLess u r.2 with
                        | true =>
                          have hyes : inR r.1 r.2 u = true := by unfold inR; rw [e1, e2', e3]; rfl
                          have HT4 : Hid (A3 ++ ((S.keys.take (i + 1)).filter (fun x => inR r.1 r.2 x)).map (fun x => rdA p.tx (x, seenL S.vs x p.snap)) = (A3 ++ ((S.keys.take i).filter (fun x => inR r.1 r.2 x)).map (fun x => rdA p.tx (x, seenL S.vs x p.snap))) ++ [rdA p.tx (u, seenL S.vs u p.snap)]) := Lib.hid (by
                            rw [HTI.out, List.filter_append, List.filter_cons, List.filter_nil, if_pos hyes, List.map_append, List.append_assoc]; rfl)
                          have HB4 : Hid ((A3 ++ ((S.keys.take i).filter (fun x => inR r.1 r.2 x)).map (fun x => rdA p.tx (x, seenL S.vs x p.snap))).length + 1 < 2 ^ 36 + 1) := Lib.hid (by
                            have e : S.keys.filter (fun x => inR r.1 r.2 x) = ((S.keys.take i).filter (fun x => inR r.1 r.2 x) ++ [u]) ++ (S.keys.drop (i + 1)).filter (fun x => inR r.1 r.2 x) := by
                              have := congrArg (fun l => l.filter (fun x => inR r.1 r.2 x)) (List.take_append_drop (i + 1) S.keys)
                              simp only [List.filter_append] at this
                              rw [← this, HTI.out, List.filter_append, List.filter_cons, List.filter_nil, if_pos hyes]
                            have hb := HBJ.out
                            unfold rgActs at hb
                            rw [List.length_map, e, List.length_append, List.length_append] at hb
                            rw [List.length_append, List.length_map]
                            simp only [List.length_cons, List.length_nil] at hb
                            omega)
                          obtain ⟨A4, hA4⟩ : ∃ A, A = A3 ++ ((S.keys.take i).filter (fun x => inR r.1 r.2 x)).map (fun x => rdA p.tx (x, seenL S.vs x p.snap)) := ⟨_, rfl⟩
                          have HS4 : Hid (∀ y ∈ A4, y.size = 4) := Lib.hid (fun y hy => by
                            rw [hA4] at hy
                            rcases List.mem_append.1 hy with hy | hy
                            · exact HS3.out y hy
                            · obtain ⟨q, -, rfl⟩ := List.mem_map.1 hy; rfl)
                          rw [← hA4] at HH10 HT4 HB4
                          have rh10 := HH10.out.row
                          have lh10 := HH10.out.l3
                          obtain ⟨ae, ce, hve⟩ := HH10.out.own.len
                          rw [hve] at rh10
                          have HVE := Lib.hid hve
                          have HSEEN := Lib.hid ((H.out.fr0 (HH10.out.fr.drew)).seen15 u p.snap)
                          have ltb3 := live_lt lh10
                          clear hA4 hve hyes
                          go_upto_region 19 with fail
                          clear e2
                          have HSTEP : Hid (∀ W W' : World, (rowOf W b5 = #[.int .i64 (p.tx : Nat), .int .i64 (p.snap : Nat), .bool p.over, .slice a3 p.rd.length d3, .slice (some ⟨gg, 0, none⟩) p.rg.length d4, .slice a5 p.wr.length d5] ∧ Fr (fun i => vd.ownBlock = some i ∨ i = w.heap.size + 1) wr W) → Fr (fun _ => False) W W' → (rowOf W' b5 = #[.int .i64 (p.tx : Nat), .int .i64 (p.snap : Nat), .bool p.over, .slice a3 p.rd.length d3, .slice (some ⟨gg, 0, none⟩) p.rg.length d4, .slice a5 p.wr.length d5] ∧ Fr (fun i => vd.ownBlock = some i ∨ i = w.heap.size + 1) wr W')) := Lib.hid (fun W W' hS f => ⟨(f.row (Nat.lt_of_lt_of_le lt510 hS.2.size) (fun e => e)).trans hS.1, hS.2.trans f (fun _ _ e => e.elim)⟩)
                          have hnb9 : b5 ≠ w.heap.size + 1 := by have := HB5.out.1; omega
                          refine wp_region_noPanic ?_
                          refine wp_region_held_drew (S := (fun w' => (rowOf w' b5 = #[.int .i64 (p.tx : Nat), .int .i64 (p.snap : Nat), .bool p.over, .slice a3 p.rd.length d3, .slice (some ⟨gg, 0, none⟩) p.rg.length d4, .slice a5 p.wr.length d5] ∧ Fr (fun i => vd.ownBlock = some i ∨ i = w.heap.size + 1) wr w'))) (by kernel_rfl) ?_ (fun hHeld => ?_)
                          · (try dsimp only)
                            (first | assumption | exact HSTEP.out wr _ ⟨r510, Fr.refl _ _⟩ ((Fr.refl _ wr).drew) | exact HSTO.out _ | exact HSTEP.out _ _ (by assumption) ((Fr.refl _ _).drew) | exact HSTEP.out _ _ (by assumption) ((Fr.refl _ _).alloc _))
                          refine wpAnyH_take (i := 0) (oi := _) (v := ?_) rfl (by kernel_rfl) (by kernel_rfl) (by kernel_rfl) (fun _ _ _ h => h) (Or.inl ⟨by rfl, ?_⟩) (by assumption) ?_
                          rotate_left
                          · intro W hSw
                            (try dsimp only at hSw)
                            go_simp
                            try with_reducible rfl
                          try simp only [Act.put, List.setIfInBounds_toArray]
                          refine wpAnyH_take (i := 2) (oi := _) (v := ?_) rfl (by kernel_rfl) (by kernel_rfl) (by kernel_rfl) (fun _ _ _ h => h) (Or.inl ⟨by rfl, ?_⟩) (by assumption) ?_
                          rotate_left
                          · intro W hSw
                            (try dsimp only at hSw)
                            go_simp
                            try with_reducible rfl
                          try simp only [Act.put]
                          refine wpAnyH_take (i := 3) (oi := _) (v := ?_) rfl (by kernel_rfl) (by kernel_rfl) (by kernel_rfl) (fun _ _ _ h => h) (Or.inl ⟨by rfl, ?_⟩) (by assumption) ?_
                          rotate_left
                          · intro W hSw
                            (try dsimp only at hSw)
                            go_simp
                            try with_reducible rfl
                          try simp only [Act.put]
                          refine wpAnyH_take (i := 4) (oi := _) (v := ?_) rfl (by kernel_rfl) (by kernel_rfl) (by kernel_rfl) (fun _ _ _ h => h) (Or.inl ⟨by rfl, ?_⟩) (by assumption) ?_
                          rotate_left
                          · intro W hSw
                            (try dsimp only at hSw)
                            go_simp
                            try with_reducible rfl
                          try simp only [Act.put]
                          refine wpAnyH_take (i := 5) (oi := _) (v := ?_) rfl (by kernel_rfl) (by kernel_rfl) (by kernel_rfl) (fun _ _ _ h => h) (Or.inl ⟨by rfl, ?_⟩) (by assumption) ?_
                          rotate_left
                          · intro W hSw
                            (try dsimp only at hSw)
                            go_simp
                            try with_reducible rfl
                          try simp only [Act.put]
                          refine wpAnyH_take (i := 6) (oi := _) (v := ?_) rfl (by kernel_rfl) (by kernel_rfl) (by kernel_rfl) (fun _ _ _ h => h) (Or.inl ⟨by rfl, ?_⟩) (by assumption) ?_
                          rotate_left
                          · intro W hSw
                            (try dsimp only at hSw)
                            go_simp
                            try with_reducible rfl
                          try simp only [Act.put]
                          refine wpAnyH_take (i := 7) (oi := _) (v := ?_) rfl (by kernel_rfl) (by kernel_rfl) (by kernel_rfl) (fun _ _ _ h => h) (Or.inl ⟨by rfl, ?_⟩) (by assumption) ?_
                          rotate_left
                          · intro W hSw
                            (try dsimp only at hSw)
                            go_simp
                            try with_reducible rfl
                          try simp only [Act.put]
                          refine wpAnyH_take (i := 8) (oi := _) (v := ?_) rfl (by kernel_rfl) (by kernel_rfl) (by kernel_rfl) (fun _ _ _ h => h) (Or.inl ⟨by rfl, ?_⟩) (by assumption) ?_
                          rotate_left
                          · intro W hSw
                            (try dsimp only at hSw)
                            go_simp
                            try with_reducible rfl
                          try simp only [Act.put]
                          refine wpAnyH_ready (rs := [1, 9]) (by kernel_rfl) (by simp) ?_
                          refine AllReadyH.cons rfl (fun K hK => ?_) ?_
                          · skip
                            go_simp
                            refine hK.out _ _ ?_ (fun hHeld => ?_)
                            · (try dsimp only)
                              (first | assumption | exact HSTEP.out wr _ ⟨r510, Fr.refl _ _⟩ ((Fr.refl _ wr).drew) | exact HSTO.out _ | exact HSTEP.out _ _ (by assumption) ((Fr.refl _ _).drew) | exact HSTEP.out _ _ (by assumption) ((Fr.refl _ _).alloc _))
                            clear hK K
                            refine wpAnyH_ready (rs := [9]) (by kernel_rfl) (by simp) ?_
                            refine AllReadyH.cons rfl (fun K hK => ?_) ?_
                            · skip
                              go_simp; go_at_call 15; refine HSEEN.out.mono ?_; rintro e w11 ⟨rfl, hf⟩; have HF11 := Lib.hid hf; have K11 := HSTEP.out _ _ (HSTEP.out wr _ ⟨r510, Fr.refl _ _⟩ ((Fr.refl _ wr).drew)) hf; have rh11 := (hf.row (g := w.heap.size + 1) ltb3 (fun e => e)).trans ((rowOf_drew _ _).trans rh10); have ltb11 := Nat.lt_of_lt_of_le ltb3 hf.size; clear hf
                              go_wp2_with fail
                              refine hK.out _ _ ?_ (fun hHeld => ?_)
                              · (try dsimp only)
                                (first | assumption | exact HSTEP.out wr _ ⟨r510, Fr.refl _ _⟩ ((Fr.refl _ wr).drew) | exact HSTO.out _ | exact HSTEP.out _ _ (by assumption) ((Fr.refl _ _).drew) | exact HSTEP.out _ _ (by assumption) ((Fr.refl _ _).alloc _))
                              clear hK K
                              refine wpAnyH_take (i := 10) (oi := _) (v := ?_) rfl (by kernel_rfl) (by kernel_rfl) (by kernel_rfl) (fun _ _ _ h => h) (Or.inl ⟨by rfl, ?_⟩) (by assumption) ?_
                              rotate_left
                              · intro W hSw
                                (try dsimp only at hSw)
                                go_simp
                                try with_reducible rfl
                              try simp only [Act.put, List.setIfInBounds_toArray]
                              refine wpAnyH_ready (rs := [11]) (by kernel_rfl) (by simp) ?_
                              refine AllReadyH.cons rfl (fun K hK => ?_) ?_
                              · skip
                                go_simp
                                refine hK.out _ _ ?_ (fun hHeld => ?_)
                                · (try dsimp only)
                                  (first | assumption | exact HSTEP.out wr _ ⟨r510, Fr.refl _ _⟩ ((Fr.refl _ wr).drew) | exact HSTO.out _ | exact HSTEP.out _ _ (by assumption) ((Fr.refl _ _).drew) | exact HSTEP.out _ _ (by assumption) ((Fr.refl _ _).alloc _))
                                clear hK K
                                refine wpAnyH_ready (rs := [12]) (by kernel_rfl) (by simp) ?_
                                refine AllReadyH.cons rfl (fun K hK => ?_) ?_
                                · skip
                                  refine step_append_one (o := ⟨some 100, _, _, _, _, _⟩) rfl (.tmp 89) (.tmp 99) 40 rfl 69 _ 4 40 Tryz.underlying40 ti69 (.slice ae A4.length ce) A4 (w.heap.size + 2) rfl ((HVE.out ▸ HH10.out.own).keep ((((Fr.refl (fun _ => False) wr).drew).trans HF11.out (fun _ _ h => h)).alloc _) (fun _ _ h => h)) (by simp; omega) w11.heap.size 1 rfl (rdA p.tx (u, seenL S.vs u p.snap)) (by simp [go_sem]) (by simp [go_sem, rdA]; rfl) (by intro z hz; simp [rdA] at hz; rcases hz with rfl | rfl | rfl | rfl <;> rfl) HS4.out (by have := HB4.out; simp only [maxLen]; omega) (fitsN (by have := HB4.out; omega) (by omega)) ?_; intro g' cap' w12 ho f hn; have HO12 := Lib.hid ho; have HF12 : Hid (Fr (fun i => vd.ownBlock = some i) wr w12) := Lib.hid ((((((Fr.refl (fun _ => False) wr).drew).trans HF11.out (fun _ _ h => h)).alloc _).mono (fun _ _ e => e.elim)).trans f (fun _ _ e => by rw [HVE.out]; exact e)); have HN12 : Hid (vd.ownBlock = some g' ∨ wr.heap.size ≤ g') := Lib.hid (hn.elim (fun e => .inl (by rw [HVE.out]; exact e)) (fun e => .inr (by have := HF11.out.size; simp at e this; omega))); have n3 : ¬ vd.ownBlock = some (w.heap.size + 1) := (fun e => by have := (HH10.out.own.lt e).1; omega); have rh12 := (HF12.out.row ltb3 n3).trans rh10; have lh12 := (HF12.out.liv ltb3 n3).trans lh10; have K12 := And.intro ((HF12.out.row lt510 HP10.out.2.2).trans r510) (HF12.out.mono (G := fun i => vd.ownBlock = some i ∨ i = w.heap.size + 1) (fun _ _ e => .inl e)); have HSTO := Lib.hid (fun R => storedH (R' := R) K12 hnb9); clear ho f hn
                                  refine hK.out _ _ ?_ (fun hHeld => ?_)
                                  · (try dsimp only)
                                    (first | assumption | exact HSTEP.out wr _ ⟨r510, Fr.refl _ _⟩ ((Fr.refl _ wr).drew) | exact HSTO.out _ | exact HSTEP.out _ _ (by assumption) ((Fr.refl _ _).drew) | exact HSTEP.out _ _ (by assumption) ((Fr.refl _ _).alloc _))
                                  clear hK K
                                  refine wpAnyH_take (i := 13) (oi := _) (v := ?_) rfl (by kernel_rfl) (by kernel_rfl) (by kernel_rfl) (fun _ _ _ h => h) (Or.inl ⟨by rfl, ?_⟩) (by assumption) ?_
                                  rotate_left
                                  · intro W hSw
                                    (try dsimp only at hSw)
                                    go_simp
                                    try with_reducible rfl
                                  try simp only [Act.put, List.setIfInBounds_toArray, List.set_cons_zero, List.set_cons_succ]
                                  refine wpAnyH_ready (rs := [14]) (by kernel_rfl) (by simp) ?_
                                  refine AllReadyH.cons rfl (fun K hK => ?_) ?_
                                  · skip
                                    go_simp
                                    refine hK.out _ _ ?_ (fun hHeld => ?_)
                                    · (try dsimp only)
                                      (first | assumption | exact HSTEP.out wr _ ⟨r510, Fr.refl _ _⟩ ((Fr.refl _ wr).drew) | exact HSTO.out _ | exact HSTEP.out _ _ (by assumption) ((Fr.refl _ _).drew) | exact HSTEP.out _ _ (by assumption) ((Fr.refl _ _).alloc _))
                                    clear hK K
                                    refine wpAnyH_done (by kernel_rfl) ?_ _
                                    refine NoPanic.normal ?_
                                    have h8 := HH10.out.push HF12.out HO12.out (fun i hi => by injection hi with hi; replace hi : g' = i := hi; rw [← hi]; exact HN12.out)
                                    rw [← HT4.out] at h8
                                    have HX8 := Lib.hid h8
                                    clear h8
                                    go_wp2
                                    first
                                      | exact ⟨⟨i + 1, _, by go_num, by have := HIT.out; omega, HX8.out.1, HL10.out.trans HX8.out.2⟩, by have := HIT.out; simp only [intOf]; omega⟩
                                      | (go_roundw
                                         case rel => exact ⟨i + 1, _, by go_num, by have := HIT.out; omega, HX8.out.1, HL10.out.trans HX8.out.2⟩
                                         case measure => (have := HIT.out; simp only [intOf]; omega))
                                  exact AllReadyH.nil
                                exact AllReadyH.nil
                              exact AllReadyH.nil
                            exact AllReadyH.nil
                          refine AllReadyH.cons rfl (fun K hK => ?_) ?_
                          · skip
                            go_simp; go_at_call 15; refine HSEEN.out.mono ?_; rintro e w11 ⟨rfl, hf⟩; have HF11 := Lib.hid hf; have K11 := HSTEP.out _ _ (HSTEP.out wr _ ⟨r510, Fr.refl _ _⟩ ((Fr.refl _ wr).drew)) hf; have rh11 := (hf.row (g := w.heap.size + 1) ltb3 (fun e => e)).trans ((rowOf_drew _ _).trans rh10); have ltb11 := Nat.lt_of_lt_of_le ltb3 hf.size; clear hf
                            go_wp2_with fail
                            refine hK.out _ _ ?_ (fun hHeld => ?_)
                            · (try dsimp only)
                              (first | assumption | exact HSTEP.out wr _ ⟨r510, Fr.refl _ _⟩ ((Fr.refl _ wr).drew) | exact HSTO.out _ | exact HSTEP.out _ _ (by assumption) ((Fr.refl _ _).drew) | exact HSTEP.out _ _ (by assumption) ((Fr.refl _ _).alloc _))
                            clear hK K
                            refine wpAnyH_take (i := 10) (oi := _) (v := ?_) rfl (by kernel_rfl) (by kernel_rfl) (by kernel_rfl) (fun _ _ _ h => h) (Or.inl ⟨by rfl, ?_⟩) (by assumption) ?_
                            rotate_left
                            · intro W hSw
                              (try dsimp only at hSw)
                              go_simp
                              try with_reducible rfl
                            try simp only [Act.put, List.setIfInBounds_toArray]
                            refine wpAnyH_ready (rs := [1, 11]) (by kernel_rfl) (by simp) ?_
                            refine AllReadyH.cons rfl (fun K hK => ?_) ?_
                            · skip
                              go_simp
                              refine hK.out _ _ ?_ (fun hHeld => ?_)
                              · (try dsimp only)
                                (first | assumption | exact HSTEP.out wr _ ⟨r510, Fr.refl _ _⟩ ((Fr.refl _ wr).drew) | exact HSTO.out _ | exact HSTEP.out _ _ (by assumption) ((Fr.refl _ _).drew) | exact HSTEP.out _ _ (by assumption) ((Fr.refl _ _).alloc _))
                              clear hK K
                              refine wpAnyH_ready (rs := [11]) (by kernel_rfl) (by simp) ?_
                              refine AllReadyH.cons rfl (fun K hK => ?_) ?_
                              · skip
                                go_simp
                                refine hK.out _ _ ?_ (fun hHeld => ?_)
                                · (try dsimp only)
                                  (first | assumption | exact HSTEP.out wr _ ⟨r510, Fr.refl _ _⟩ ((Fr.refl _ wr).drew) | exact HSTO.out _ | exact HSTEP.out _ _ (by assumption) ((Fr.refl _ _).drew) | exact HSTEP.out _ _ (by assumption) ((Fr.refl _ _).alloc _))
                                clear hK K
                                refine wpAnyH_ready (rs := [12]) (by kernel_rfl) (by simp) ?_
                                refine AllReadyH.cons rfl (fun K hK => ?_) ?_
                                · skip
                                  refine step_append_one (o := ⟨some 100, _, _, _, _, _⟩) rfl (.tmp 89) (.tmp 99) 40 rfl 69 _ 4 40 Tryz.underlying40 ti69 (.slice ae A4.length ce) A4 (w.heap.size + 2) rfl ((HVE.out ▸ HH10.out.own).keep ((((Fr.refl (fun _ => False) wr).drew).trans HF11.out (fun _ _ h => h)).alloc _) (fun _ _ h => h)) (by simp; omega) w11.heap.size 1 rfl (rdA p.tx (u, seenL S.vs u p.snap)) (by simp [go_sem]) (by simp [go_sem, rdA]; rfl) (by intro z hz; simp [rdA] at hz; rcases hz with rfl | rfl | rfl | rfl <;> rfl) HS4.out (by have := HB4.out; simp only [maxLen]; omega) (fitsN (by have := HB4.out; omega) (by omega)) ?_; intro g' cap' w12 ho f hn; have HO12 := Lib.hid ho; have HF12 : Hid (Fr (fun i => vd.ownBlock = some i) wr w12) := Lib.hid ((((((Fr.refl (fun _ => False) wr).drew).trans HF11.out (fun _ _ h => h)).alloc _).mono (fun _ _ e => e.elim)).trans f (fun _ _ e => by rw [HVE.out]; exact e)); have HN12 : Hid (vd.ownBlock = some g' ∨ wr.heap.size ≤ g') := Lib.hid (hn.elim (fun e => .inl (by rw [HVE.out]; exact e)) (fun e => .inr (by have := HF11.out.size; simp at e this; omega))); have n3 : ¬ vd.ownBlock = some (w.heap.size + 1) := (fun e => by have := (HH10.out.own.lt e).1; omega); have rh12 := (HF12.out.row ltb3 n3).trans rh10; have lh12 := (HF12.out.liv ltb3 n3).trans lh10; have K12 := And.intro ((HF12.out.row lt510 HP10.out.2.2).trans r510) (HF12.out.mono (G := fun i => vd.ownBlock = some i ∨ i = w.heap.size + 1) (fun _ _ e => .inl e)); have HSTO := Lib.hid (fun R => storedH (R' := R) K12 hnb9); clear ho f hn
                                  refine hK.out _ _ ?_ (fun hHeld => ?_)
                                  · (try dsimp only)
                                    (first | assumption | exact HSTEP.out wr _ ⟨r510, Fr.refl _ _⟩ ((Fr.refl _ wr).drew) | exact HSTO.out _ | exact HSTEP.out _ _ (by assumption) ((Fr.refl _ _).drew) | exact HSTEP.out _ _ (by assumption) ((Fr.refl _ _).alloc _))
                                  clear hK K
                                  refine wpAnyH_take (i := 13) (oi := _) (v := ?_) rfl (by kernel_rfl) (by kernel_rfl) (by kernel_rfl) (fun _ _ _ h => h) (Or.inl ⟨by rfl, ?_⟩) (by assumption) ?_
                                  rotate_left
                                  · intro W hSw
                                    (try dsimp only at hSw)
                                    go_simp
                                    try with_reducible rfl
                                  try simp only [Act.put, List.setIfInBounds_toArray, List.set_cons_zero, List.set_cons_succ]
                                  refine wpAnyH_ready (rs := [14]) (by kernel_rfl) (by simp) ?_
                                  refine AllReadyH.cons rfl (fun K hK => ?_) ?_
                                  · skip
                                    go_simp
                                    refine hK.out _ _ ?_ (fun hHeld => ?_)
                                    · (try dsimp only)
                                      (first | assumption | exact HSTEP.out wr _ ⟨r510, Fr.refl _ _⟩ ((Fr.refl _ wr).drew) | exact HSTO.out _ | exact HSTEP.out _ _ (by assumption) ((Fr.refl _ _).drew) | exact HSTEP.out _ _ (by assumption) ((Fr.refl _ _).alloc _))
                                    clear hK K
                                    refine wpAnyH_done (by kernel_rfl) ?_ _
                                    refine NoPanic.normal ?_
                                    have h8 := HH10.out.push HF12.out HO12.out (fun i hi => by injection hi with hi; replace hi : g' = i := hi; rw [← hi]; exact HN12.out)
                                    rw [← HT4.out] at h8
                                    have HX8 := Lib.hid h8
                                    clear h8
                                    go_wp2
                                    first
                                      | exact ⟨⟨i + 1, _, by go_num, by have := HIT.out; omega, HX8.out.1, HL10.out.trans HX8.out.2⟩, by have := HIT.out; simp only [intOf]; omega⟩
                                      | (go_roundw
                                         case rel => exact ⟨i + 1, _, by go_num, by have := HIT.out; omega, HX8.out.1, HL10.out.trans HX8.out.2⟩
                                         case measure => (have := HIT.out; simp only [intOf]; omega))
                                  exact AllReadyH.nil
                                exact AllReadyH.nil
                              exact AllReadyH.nil
                            refine AllReadyH.cons rfl (fun K hK => ?_) ?_
                            · skip
                              go_simp
                              refine hK.out _ _ ?_ (fun hHeld => ?_)
                              · (try dsimp only)
                                (first | assumption | exact HSTEP.out wr _ ⟨r510, Fr.refl _ _⟩ ((Fr.refl _ wr).drew) | exact HSTO.out _ | exact HSTEP.out _ _ (by assumption) ((Fr.refl _ _).drew) | exact HSTEP.out _ _ (by assumption) ((Fr.refl _ _).alloc _))
                              clear hK K
                              refine wpAnyH_ready (rs := [1]) (by kernel_rfl) (by simp) ?_
                              refine AllReadyH.cons rfl (fun K hK => ?_) ?_
                              · skip
                                go_simp
                                refine hK.out _ _ ?_ (fun hHeld => ?_)
                                · (try dsimp only)
                                  (first | assumption | exact HSTEP.out wr _ ⟨r510, Fr.refl _ _⟩ ((Fr.refl _ wr).drew) | exact HSTO.out _ | exact HSTEP.out _ _ (by assumption) ((Fr.refl _ _).drew) | exact HSTEP.out _ _ (by assumption) ((Fr.refl _ _).alloc _))
                                clear hK K
                                refine wpAnyH_ready (rs := [12]) (by kernel_rfl) (by simp) ?_
                                refine AllReadyH.cons rfl (fun K hK => ?_) ?_
                                · skip
                                  refine step_append_one (o := ⟨some 100, _, _, _, _, _⟩) rfl (.tmp 89) (.tmp 99) 40 rfl 69 _ 4 40 Tryz.underlying40 ti69 (.slice ae A4.length ce) A4 (w.heap.size + 2) rfl ((HVE.out ▸ HH10.out.own).keep ((((Fr.refl (fun _ => False) wr).drew).trans HF11.out (fun _ _ h => h)).alloc _) (fun _ _ h => h)) (by simp; omega) w11.heap.size 1 rfl (rdA p.tx (u, seenL S.vs u p.snap)) (by simp [go_sem]) (by simp [go_sem, rdA]; rfl) (by intro z hz; simp [rdA] at hz; rcases hz with rfl | rfl | rfl | rfl <;> rfl) HS4.out (by have := HB4.out; simp only [maxLen]; omega) (fitsN (by have := HB4.out; omega) (by omega)) ?_; intro g' cap' w12 ho f hn; have HO12 := Lib.hid ho; have HF12 : Hid (Fr (fun i => vd.ownBlock = some i) wr w12) := Lib.hid ((((((Fr.refl (fun _ => False) wr).drew).trans HF11.out (fun _ _ h => h)).alloc _).mono (fun _ _ e => e.elim)).trans f (fun _ _ e => by rw [HVE.out]; exact e)); have HN12 : Hid (vd.ownBlock = some g' ∨ wr.heap.size ≤ g') := Lib.hid (hn.elim (fun e => .inl (by rw [HVE.out]; exact e)) (fun e => .inr (by have := HF11.out.size; simp at e this; omega))); have n3 : ¬ vd.ownBlock = some (w.heap.size + 1) := (fun e => by have := (HH10.out.own.lt e).1; omega); have rh12 := (HF12.out.row ltb3 n3).trans rh10; have lh12 := (HF12.out.liv ltb3 n3).trans lh10; have K12 := And.intro ((HF12.out.row lt510 HP10.out.2.2).trans r510) (HF12.out.mono (G := fun i => vd.ownBlock = some i ∨ i = w.heap.size + 1) (fun _ _ e => .inl e)); have HSTO := Lib.hid (fun R => storedH (R' := R) K12 hnb9); clear ho f hn
                                  refine hK.out _ _ ?_ (fun hHeld => ?_)
                                  · (try dsimp only)
                                    (first | assumption | exact HSTEP.out wr _ ⟨r510, Fr.refl _ _⟩ ((Fr.refl _ wr).drew) | exact HSTO.out _ | exact HSTEP.out _ _ (by assumption) ((Fr.refl _ _).drew) | exact HSTEP.out _ _ (by assumption) ((Fr.refl _ _).alloc _))
                                  clear hK K
                                  refine wpAnyH_take (i := 13) (oi := _) (v := ?_) rfl (by kernel_rfl) (by kernel_rfl) (by kernel_rfl) (fun _ _ _ h => h) (Or.inl ⟨by rfl, ?_⟩) (by assumption) ?_
                                  rotate_left
                                  · intro W hSw
                                    (try dsimp only at hSw)
                                    go_simp
                                    try with_reducible rfl
                                  try simp only [Act.put, List.setIfInBounds_toArray, List.set_cons_zero, List.set_cons_succ]
                                  refine wpAnyH_ready (rs := [14]) (by kernel_rfl) (by simp) ?_
                                  refine AllReadyH.cons rfl (fun K hK => ?_) ?_
                                  · skip
                                    go_simp
                                    refine hK.out _ _ ?_ (fun hHeld => ?_)
                                    · (try dsimp only)
                                      (first | assumption | exact HSTEP.out wr _ ⟨r510, Fr.refl _ _⟩ ((Fr.refl _ wr).drew) | exact HSTO.out _ | exact HSTEP.out _ _ (by assumption) ((Fr.refl _ _).drew) | exact HSTEP.out _ _ (by assumption) ((Fr.refl _ _).alloc _))
                                    clear hK K
                                    refine wpAnyH_done (by kernel_rfl) ?_ _
                                    refine NoPanic.normal ?_
                                    have h8 := HH10.out.push HF12.out HO12.out (fun i hi => by injection hi with hi; replace hi : g' = i := hi; rw [← hi]; exact HN12.out)
                                    rw [← HT4.out] at h8
                                    have HX8 := Lib.hid h8
                                    clear h8
                                    go_wp2
                                    first
                                      | exact ⟨⟨i + 1, _, by go_num, by have := HIT.out; omega, HX8.out.1, HL10.out.trans HX8.out.2⟩, by have := HIT.out; simp only [intOf]; omega⟩
                                      | (go_roundw
                                         case rel => exact ⟨i + 1, _, by go_num, by have := HIT.out; omega, HX8.out.1, HL10.out.trans HX8.out.2⟩
                                         case measure => (have := HIT.out; simp only [intOf]; omega))
                                  exact AllReadyH.nil
                                exact AllReadyH.nil
                              exact AllReadyH.nil
                            exact AllReadyH.nil
                          exact AllReadyH.nil
                        | false =>
                          have hno : inR r.1 r.2 u = false := by unfold inR; rw [e1, e2', e3]; rfl
                          go_upto_region 19 with fail
                          refine ⟨⟨i + 1, vd, by go_num, by have := HIT.out; omega, ?_, HL10.out⟩, by have := HIT.out; simp only [intOf]; omega⟩
                          rw [HTI.out, List.filter_append, List.filter_cons, List.filter_nil, if_neg (by rw [hno]; simp), List.append_nil]
                          exact HH10.out
                  · obtain rfl : i = S.keys.length := by omega
                    have et : (S.keys.take S.keys.length) = S.keys := List.take_of_length_le (Nat.le_refl _)
                    rw [et] at HH10
                    clear hH hL P10 Q10 et
                    go_wp2
                    go_roundw
                    case rel => exact ⟨j + 1, vd, by go_num, by have := HJT.out; omega, by rw [HTJ.out]; exact HH10.out, HL9.out.trans HL10.out⟩
                    case measure => (have := HJT.out; simp only [intOf]; omega)
              · obtain rfl : j = p.rg.length := by omega
                have et : (p.rg.take p.rg.length) = p.rg := List.take_of_length_le (Nat.le_refl _)
                have HFIN : Hid (Hist w (.slice ao S.ord.length co) wr vc (A0 ++ ptActs S p)) := Lib.hid (by
                  have := HH8.out
                  rw [et, HA2.out, List.append_assoc, ← HPA.out] at this; exact this)
                clear hH hL P8 et HH8
                go_wp2
                go_roundw
                case rel => exact ⟨k + 1, vc, by go_num, by have := HLT.out; omega, by rw [HTK.out]; exact HFIN.out⟩
                case measure => (have := HLT.out; simp only [intOf]; omega)
    · obtain rfl : k = S.l.length := by omega
      clear hH
      have e1 : (S.l.take S.l.length) = S.l := List.take_of_length_le (Nat.le_refl _)
      have HF : Hist w (.slice ao S.ord.length co) wr va (histActs S) := by have := HH.out; rw [e1] at this; exact this
      have r2 := HF.r2
      have l2 := HF.l2
      have hn2 : w.heap.size ≠ w.heap.size + 1 := by omega
      obtain ⟨ah, ch, rfl⟩ := HF.own.len
      have HFF := Lib.hid HF
      clear HF HH e1
      go_wp2
      have hl9 : live (wr.setRow w.heap.size #[.slice ao S.ord.length co, .slice ah (histActs S).length ch]) w.heap.size = true := by rw [live_setRow]; exact l2
      have hr9 : rowOf (wr.setRow w.heap.size #[.slice ao S.ord.length co, .slice ah (histActs S).length ch]) w.heap.size = #[.slice ao S.ord.length co, .slice ah (histActs S).length ch] := rowOf_setRow_same _ _ _ l2
      obtain ⟨ty, hob⟩ := live_obj hl9
      rw [hr9] at hob
      obtain ⟨fs, hfs⟩ := und42
      refine bodyPost_ret (results_cell_row (P := Tryz.prog) (d := .struct fs) rfl _ _ w.heap.size ty _ _ rfl hob hfs rfl (by kernel_rfl)) rfl ?_
      refine ⟨_, by rw [HVO.out], Lib.hid ⟨?_, HFF.out.fr.setNew (Nat.le_refl _) _⟩⟩
      rcases HFF.out.own.keep ((Fr.refl (fun i => i = w.heap.size) wr).setRow w.heap.size #[.slice ao S.ord.length co, .slice ah (histActs S).length ch] (fun _ => rfl)) (fun k hk e => by have := (HFF.out.own.lt hk).1; omega) with ⟨x1, x2⟩ | ⟨g', cap, x1, x0, x2⟩
      · exact .inl ⟨x1, x2⟩
      · exact .inr ⟨g', cap, x1, by omega, x2⟩
end
end Go.Proofs.YteldfmgjbgedaaaGreat
