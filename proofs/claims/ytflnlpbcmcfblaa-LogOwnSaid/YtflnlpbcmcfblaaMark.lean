/-
  Package log: readMark, readHead.
-/
import Derived.Test.YtflnlpbcmcfblaaGet
namespace Go.Proofs.Ytflnlpbcmcfblaa
open Go.RowKit

/-- A block that is read off: p of its bytes are through. -/
structure Cur (w : World) (bx g : Nat) (b ext : List UInt8) (p : Nat) : Prop where
  row : rowOf w bx = #[.slice (some ⟨g, p, none⟩) (64 - p) (64 - p + ext.length)]
  liv : live w bx = true
  dat : rowOf w g = bvA (b ++ ext)
  len : b.length = 64
  cap : 64 + ext.length ≤ maxLen
  ne : g ≠ bx

theorem cur_get {w : World} {bx g : Nat} {b ext : List UInt8} {p : Nat} (h : Cur w bx g b ext p) (n : Nat) (hn : p + n < 64) (h8 : n ≤ 8) :
    Calls Try.prog 93 #[.pointer (some ⟨bx, 0, none⟩), .int .i64 n] w fun e w' => e = .returned (.int .u64 (le ((b.drop p).take n))) ∧ Cur w' bx g b ext (p + n) ∧ Fr (fun k => k = bx) w w' := by
  have hs : (rowOf w g).size = 64 + ext.length := by rw [h.dat, bvA_size, List.length_append, h.len]
  have hd : (b.drop p).length = 64 - p := by rw [List.length_drop, h.len]
  have hc : cut (rowOf w g) p (b.drop p).length = bvA (b.drop p) := by
    rw [hd]
    refine cut_ext (by rw [bvA_size, hd]) (by rw [hs]; omega) (fun i hi => ?_)
    rw [h.dat, bvA_get, bvA_get, List.getElem?_append_left (by rw [h.len]; omega), List.getElem?_drop]
  have hcm := h.cap
  refine (get_any w bx g p (64 - p + ext.length) (b.drop p) (64 - p) n hd (by omega) h8 (by omega) (by simp only [maxLen] at hcm; omega) h.row h.liv (by rw [hd, hs]; omega) hc).mono ?_
  rintro e w' ⟨rfl, r1, l1, f1⟩
  have hg : g < w.heap.size := rowOf_lt (by rw [hs]; omega)
  refine ⟨rfl, ⟨?_, l1, by rw [f1.row hg h.ne]; exact h.dat, h.len, h.cap, h.ne⟩, f1⟩
  rw [r1, Nat.sub_sub, show 64 - p + ext.length - n = 64 - (p + n) + ext.length by omega]

/-- What a block says, if it says something. -/
structure MarkV where
  gen : Nat
  life : Nat
  record : Nat
  place : Nat
  long : Nat
  deriving DecidableEq

def rmIs (b : List UInt8) : Bool := decide (b.length = 64) && decide (b.head? = some 177)
def rmV (b : List UInt8) : MarkV := if rmIs b then ⟨le ((b.drop 1).take 6), le ((b.drop 7).take 6), le ((b.drop 13).take 4), le ((b.drop 17).take 2), le ((b.drop 19).take 3)⟩ else ⟨0, 0, 0, 0, 0⟩
def markA (m : MarkV) : Array Value := #[.int .u64 m.gen, .int .u64 m.life, .int .i64 m.record, .int .i64 m.place, .int .i64 m.long]

structure HeadV where
  turn : Nat
  life : Nat
  gen : Nat
  area : Nat
  deriving DecidableEq
def rhRaw (b : List UInt8) : Bool := decide (b.length = 64) && decide (b.head? = some 75)
def rhV (b : List UInt8) : HeadV := if rhRaw b then ⟨le ((b.drop 1).take 8), le ((b.drop 9).take 8), le ((b.drop 17).take 8), le ((b.drop 25).take 1)⟩ else ⟨0, 0, 0, 0⟩
def rhIs (b : List UInt8) : Bool := rhRaw b && decide ((rhV b).area ≤ 1) && decide ((rhV b).life < 1099511627776) && decide ((rhV b).gen < 1099511627776)
def headA (h : HeadV) : Array Value := #[.int .u64 h.turn, .int .u64 h.life, .int .u64 h.gen, .int .i64 h.area]

theorem size142 : (Try.prog.info? 142).map (·.size) = some 5 := by kernel_rfl
theorem size89 : (Try.prog.info? 89).map (·.size) = some 4 := by kernel_rfl

theorem results94 {w : World} {t : Array Value} {g : Nat} {q : Bool} {c0 c1 c2 c3 c4 : Value} (h2 : t[2]?.getD undef = .pointer (some ⟨g, 0, none⟩)) (h3 : t[3]?.getD undef = .bool q) (hr : rowOf w g = #[c0, c1, c2, c3, c4]) :
    (results Try.f94 t).run Try.prog w = .ok (.tuple #[.agg #[c0, c1, c2, c3, c4], .bool q]) w := by
  cases hi : Try.prog.info? 142 with
  | none => have := size142; rw [hi] at this; cases this
  | some i =>
    have hs : i.size = 5 := by have := size142; rw [hi] at this; exact Option.some.inj this
    simp [results, Try.results94, go_sem, h2, h3, isAgg, run_underlying Try.underlying142, sizeOf, typeInfo, hi, hs, hr]

theorem results79 {w : World} {t : Array Value} {g : Nat} {q : Bool} {c0 c1 c2 c3 : Value} (h2 : t[2]?.getD undef = .pointer (some ⟨g, 0, none⟩)) (h3 : t[3]?.getD undef = .bool q) (hr : rowOf w g = #[c0, c1, c2, c3]) :
    (results Try.f79 t).run Try.prog w = .ok (.tuple #[.agg #[c0, c1, c2, c3], .bool q]) w := by
  cases hi : Try.prog.info? 89 with
  | none => have := size89; rw [hi] at this; cases this
  | some i =>
    have hs : i.size = 4 := by have := size89; rw [hi] at this; exact Option.some.inj this
    simp [results, Try.results79, go_sem, h2, h3, isAgg, run_underlying Try.underlying89, sizeOf, typeInfo, hi, hs, hr]

theorem head_cell {w : World} {g : Nat} {b ext : List UInt8} (h : rowOf w g = bvA (b ++ ext)) (hl : b.length = 64) : ∃ x, b.head? = some x ∧ (rowOf w g)[0]? = some (.int .u8 (x.toNat : Int)) := by
  cases b with
  | nil => simp at hl
  | cons x l => exact ⟨x, rfl, by rw [h]; simp [bvA, bv]⟩

/-- What the walk of a reader carries. -/
structure Rd (w0 w : World) (b1 b2 g : Nat) (b ext : List UInt8) (p : Nat) (row2 : Array Value) : Prop where
  cur : Cur w b1 g b ext p
  r2 : rowOf w b2 = row2
  l2 : live w b2 = true
  fr : Fr (fun _ => False) w0 w
  n1 : w0.heap.size ≤ b1
  n2 : b2 ≠ b1

theorem rd_get {w0 w : World} {b1 b2 g : Nat} {b ext : List UInt8} {p : Nat} {row2 : Array Value} (h : Rd w0 w b1 b2 g b ext p row2) (n : Nat) (hn : p + n < 64) (h8 : n ≤ 8) :
    Calls Try.prog 93 #[.pointer (some ⟨b1, 0, none⟩), .int .i64 n] w fun e w' => e = .returned (.int .u64 (le ((b.drop p).take n))) ∧ Rd w0 w' b1 b2 g b ext (p + n) row2 ∧ Fr (fun k => k = b1) w w' := by
  refine (cur_get h.cur n hn h8).mono ?_
  rintro e w' ⟨rfl, c1, f1⟩
  exact ⟨rfl, ⟨c1, by rw [f1.row (live_lt h.l2) h.n2]; exact h.r2, by rw [f1.liv (live_lt h.l2) h.n2]; exact h.l2, h.fr.trans f1 (fun i hi e => by have := h.n1; omega), h.n1, h.n2⟩, f1⟩

theorem Rd.still {w0 w w' : World} {b1 b2 g : Nat} {b ext : List UInt8} {p : Nat} {row2 : Array Value} (h : Rd w0 w b1 b2 g b ext p row2) (f : Fr (fun _ => False) w w') : Rd w0 w' b1 b2 g b ext p row2 := by
  have hg : g < w.heap.size := rowOf_lt (by rw [h.cur.dat, bvA_size, List.length_append, h.cur.len]; omega)
  exact ⟨⟨by rw [f.row (live_lt h.cur.liv) (fun h => h)]; exact h.cur.row, by rw [f.liv (live_lt h.cur.liv) (fun h => h)]; exact h.cur.liv, by rw [f.row hg (fun h => h)]; exact h.cur.dat, h.cur.len, h.cur.cap, h.cur.ne⟩,
    by rw [f.row (live_lt h.l2) (fun h => h)]; exact h.r2, by rw [f.liv (live_lt h.l2) (fun h => h)]; exact h.l2, h.fr.trans f (fun _ _ h => h), h.n1, h.n2⟩

theorem rd_start {w : World} {g : Nat} {b ext : List UInt8} {row2 : Array Value} {t2 : TypeId} (hg : g < w.heap.size) (hru : rowOf w g = bvA (b ++ ext)) (hl : b.length = 64) (hm : 64 + ext.length ≤ maxLen) (c1 : Array Value) :
    Rd w (((w.alloc (.cells c1 36)).alloc (.cells row2 t2)).setRow w.heap.size #[.slice (some ⟨g, 1, none⟩) 63 (63 + ext.length)]) w.heap.size (w.heap.size + 1) g b ext 1 row2 := by
  have f : Fr (fun _ => False) w ((w.alloc (.cells c1 36)).alloc (.cells row2 t2)) := ((Fr.refl _ w).alloc _).alloc _
  have fs := f.setNew (g := w.heap.size) (Nat.le_refl _) #[.slice (some ⟨g, 1, none⟩) 63 (63 + ext.length)]
  have l1 : live ((w.alloc (.cells c1 36)).alloc (.cells row2 t2)) w.heap.size = true := by rw [live_alloc_lt _ _ _ (by simp)]; exact live_alloc_at _ _ _ _ rfl
  refine ⟨⟨rowOf_setRow_same _ _ _ l1, by rw [live_setRow]; exact l1, by rw [fs.row hg (fun h => h)]; exact hru, hl, hm, by omega⟩, ?_, ?_, fs, Nat.le_refl _, by omega⟩
  · rw [rowOf_setRow_ne _ _ _ _ (by omega)]; exact rowOf_alloc_at _ _ _ _ _ (by simp)
  · rw [live_setRow]; exact live_alloc_at _ _ _ _ (by simp)

theorem le_cut_lt (b : List UInt8) (p n : Nat) : le ((b.drop p).take n) < 256 ^ n := by
  have := le_lt ((b.drop p).take n)
  have h2 : ((b.drop p).take n).length ≤ n := List.length_take_le _ _
  exact Nat.lt_of_lt_of_le this (Nat.pow_le_pow_right (by omega) h2)

set_option maxRecDepth 20000 in
set_option maxHeartbeats 2000000 in
theorem readMark_any (w : World) (v : Value) (b : List UInt8) (base : Nat) (hv : OwnB w v b base) :
    Calls Try.prog 94 #[v] w fun e w' => e = .returned (.tuple #[.agg (markA (rmV b)), .bool (rmIs b)]) ∧ Fr (fun _ => False) w w' := by
  by_cases h64 : b.length = 64
  · rcases hv with ⟨rfl, rfl⟩ | ⟨g, ext, rfl, hb, lg, hmx, hru⟩
    · simp at h64
    obtain ⟨x, hx, hcell⟩ := head_cell hru h64
    have hgl := live_lt lg
    rw [h64] at hmx ⊢
    have hru2 := Lib.hid hru
    have H64 := Lib.hid h64
    by_cases h177 : x = 177
    · subst h177
      have EI : rmIs b = true := by simp [rmIs, h64, hx]
      have EV : rmV b = ⟨le ((b.drop 1).take 6), le ((b.drop 7).take 6), le ((b.drop 13).take 4), le ((b.drop 17).take 2), le ((b.drop 19).take 3)⟩ := by unfold rmV; rw [EI]; rfl
      rw [EI, EV]
      have L4 := le_cut_lt b 13 4
      have L2 := le_cut_lt b 17 2
      have L3 := le_cut_lt b 19 3
      obtain ⟨n1, hn1⟩ : ∃ n, le ((b.drop 1).take 6) = n := ⟨_, rfl⟩
      obtain ⟨n2, hn2⟩ : ∃ n, le ((b.drop 7).take 6) = n := ⟨_, rfl⟩
      obtain ⟨n3, hn3⟩ : ∃ n, le ((b.drop 13).take 4) = n := ⟨_, rfl⟩
      obtain ⟨n4, hn4⟩ : ∃ n, le ((b.drop 17).take 2) = n := ⟨_, rfl⟩
      obtain ⟨n5, hn5⟩ : ∃ n, le ((b.drop 19).take 3) = n := ⟨_, rfl⟩
      rw [hn1, hn2, hn3, hn4, hn5]
      rw [hn3] at L4
      rw [hn4] at L2
      rw [hn5] at L3
      have HN := Lib.hid (And.intro hn1 (And.intro hn2 (And.intro hn3 (And.intro hn4 hn5))))
      clear hn1 hn2 hn3 hn4 hn5 EI EV hx hru h64
      unfold markA
      simp only
      have RS := Lib.hid (rd_start (w := w) (g := g) (b := b) (ext := ext) (t2 := 142) (row2 := #[.int .u64 0, .int .u64 0, .int .i64 0, .int .i64 0, .int .i64 0]) hgl hru2.out H64.out hmx #[.slice (some ⟨g, 0, none⟩) 64 (64 + ext.length)])
      go_enter Try.func94, Try.ntmps94
      go_wp2_with fail
      obtain ⟨b1, hb1⟩ : ∃ x, w.heap.size = x := ⟨_, rfl⟩
      obtain ⟨b2, hb2⟩ : ∃ x, w.heap.size + 1 = x := ⟨_, rfl⟩
      have HB := Lib.hid (And.intro hb1 hb2)
      rw [hb2, hb1] at RS ⊢
      clear hb1 hb2
      show Calls _ _ #[_, .int .i64 ((6 : Nat) : Int)] _ _
      refine (rd_get RS.out 6 (by omega) (by omega)).mono ?_
      rintro e w1 ⟨rfl, r1, f1⟩
      have R1 := Lib.hid r1
      rw [HN.out.1]
      clear r1 f1 RS
      go_wp2_with fail
      show Calls _ _ #[_, .int .i64 ((6 : Nat) : Int)] _ _
      refine (rd_get R1.out 6 (by omega) (by omega)).mono ?_
      rintro e w2 ⟨rfl, r2, f2⟩
      have R2 := Lib.hid r2
      rw [HN.out.2.1]
      obtain ⟨w3, hw3⟩ : ∃ w3, w2.alloc (.cells #[.int .u64 n1, .int .u64 n2, .int .i64 0, .int .i64 0, .int .i64 0] 142) = w3 := ⟨_, rfl⟩
      obtain ⟨b3, hb3⟩ : ∃ b3, w2.heap.size = b3 := ⟨_, rfl⟩
      have R3 := Lib.hid (show Rd w w3 b1 b2 g b ext 13 #[.int .u64 0, .int .u64 0, .int .i64 0, .int .i64 0, .int .i64 0] by rw [← hw3]; exact r2.still ((Fr.refl _ w2).alloc _))
      have Q3 := Lib.hid (show rowOf w3 b3 = #[.int .u64 n1, .int .u64 n2, .int .i64 0, .int .i64 0, .int .i64 0] ∧ live w3 b3 = true ∧ b3 ≠ b1 ∧ b3 ≠ b2 ∧ w.heap.size ≤ b3 by
        have h1 := live_lt r2.cur.liv
        have h2 := live_lt r2.l2
        have h3 := r2.fr.size
        rw [← hw3, ← hb3]
        exact ⟨rowOf_alloc_at _ _ _ _ _ rfl, live_alloc_at _ _ _ _ rfl, by omega, by omega, h3⟩)
      have HW3 := Lib.hid (And.intro hw3 hb3)
      clear r2 f2 R1 R2 hw3 hb3
      go_wp2_with fail
      rw [HW3.out.1, HW3.out.2]
      have q3 := Q3.out.1
      have l33 := Q3.out.2.1
      have n31 := Q3.out.2.2.1
      have n32 := Q3.out.2.2.2.1
      clear HW3
      show Calls _ _ #[_, .int .i64 ((4 : Nat) : Int)] _ _
      refine (rd_get R3.out 4 (by omega) (by omega)).mono ?_
      rintro e w4 ⟨rfl, r4, f4⟩
      have R4 := Lib.hid r4
      rw [HN.out.2.2.1]
      have q4 := (f4.row (live_lt l33) n31).trans q3
      have l34 := (f4.liv (live_lt l33) n31).trans l33
      clear r4 f4 q3 l33
      go_wp2_with fail
      show Calls _ _ #[_, .int .i64 ((2 : Nat) : Int)] _ _
      refine (rd_get R4.out 2 (by omega) (by omega)).mono ?_
      rintro e w5 ⟨rfl, r5, f5⟩
      have R5 := Lib.hid r5
      rw [HN.out.2.2.2.1]
      have q5 := (f5.row (live_lt l34) n31).trans q4
      have l35 := (f5.liv (live_lt l34) n31).trans l34
      clear r5 f5 q4 l34
      go_wp2_with fail
      show Calls _ _ #[_, .int .i64 ((3 : Nat) : Int)] _ _
      refine (rd_get R5.out 3 (by omega) (by omega)).mono ?_
      rintro e w6 ⟨rfl, r6, f6⟩
      have R6 := Lib.hid r6
      rw [HN.out.2.2.2.2]
      have q6 := (f6.row (live_lt l35) n31).trans q5
      have l36 := (f6.liv (live_lt l35) n31).trans l35
      clear r6 f6 q5 l35
      have r26 := R6.out.r2
      have l26 := R6.out.l2
      have n32' : b2 ≠ b3 := fun e => n32 e.symm
      go_wp2
      have FA := (R6.out.fr.setNew (g := b3) Q3.out.2.2.2.2 #[.int .u64 n1, .int .u64 n2, .int .i64 n3, .int .i64 n4, .int .i64 n5])
      have H2 := HB.out.2
      refine bodyPost_ret (results94 rfl rfl (rowOf_setRow_same _ _ _ (by simpa [go_sem] using l26))) rfl ⟨rfl, ?_⟩
      exact FA.setNew (g := b2) (by omega) _
    · have EI : rmIs b = false := by simp [rmIs, h64, hx, h177]
      have EV : rmV b = ⟨0, 0, 0, 0, 0⟩ := by unfold rmV; rw [EI]; rfl
      have hne : ((x.toNat : Int) != 177) = true := by
        have : x.toNat ≠ 177 := fun e => h177 (UInt8.toNat_inj.1 e)
        simp; omega
      rw [EI, EV]
      clear EI EV hx hru h64
      go_enter Try.func94, Try.ntmps94
      go_wp2
      exact bodyPost_ret (results94 rfl rfl (rowOf_alloc_at _ _ _ _ _ (by simp))) rfl ⟨rfl, ((Fr.refl _ w).alloc _).alloc _⟩
  · have EI : rmIs b = false := by simp [rmIs, h64]
    have EV : rmV b = ⟨0, 0, 0, 0, 0⟩ := by unfold rmV; rw [EI]; rfl
    rw [EI, EV]
    obtain ⟨a, cap, rfl⟩ := hv.shape
    obtain ⟨q, hq⟩ : ∃ q, b.length = q := ⟨_, rfl⟩
    rw [hq] at h64 ⊢
    have hne : ((q : Int) != 64) = true := by simp; omega
    clear EI EV hv hq h64
    go_enter Try.func94, Try.ntmps94
    go_wp2
    exact bodyPost_ret (results94 rfl rfl (rowOf_alloc_at _ _ _ _ _ (by simp))) rfl ⟨rfl, ((Fr.refl _ w).alloc _).alloc _⟩

set_option maxRecDepth 20000 in
set_option maxHeartbeats 2000000 in
theorem readHead_any (w : World) (v : Value) (b : List UInt8) (base : Nat) (hv : OwnB w v b base) :
    Calls Try.prog 79 #[v] w fun e w' => e = .returned (.tuple #[.agg (headA (rhV b)), .bool (rhIs b)]) ∧ Fr (fun _ => False) w w' := by
  by_cases h64 : b.length = 64
  · rcases hv with ⟨rfl, rfl⟩ | ⟨g, ext, rfl, hb, lg, hmx, hru⟩
    · simp at h64
    obtain ⟨x, hx, hcell⟩ := head_cell hru h64
    have hgl := live_lt lg
    rw [h64] at hmx ⊢
    have hru2 := Lib.hid hru
    have H64 := Lib.hid h64
    by_cases h177 : x = 75
    · subst h177
      have EI : rhRaw b = true := by simp [rhRaw, h64, hx]
      have EV : rhV b = ⟨le ((b.drop 1).take 8), le ((b.drop 9).take 8), le ((b.drop 17).take 8), le ((b.drop 25).take 1)⟩ := by unfold rhV; rw [EI]; rfl
      have L4 := le_cut_lt b 25 1
      have L1 := le_cut_lt b 1 8
      have L2 := le_cut_lt b 9 8
      have L3 := le_cut_lt b 17 8
      unfold rhIs
      rw [EI, EV]
      obtain ⟨n1, hn1⟩ : ∃ n, le ((b.drop 1).take 8) = n := ⟨_, rfl⟩
      obtain ⟨n2, hn2⟩ : ∃ n, le ((b.drop 9).take 8) = n := ⟨_, rfl⟩
      obtain ⟨n3, hn3⟩ : ∃ n, le ((b.drop 17).take 8) = n := ⟨_, rfl⟩
      obtain ⟨n4, hn4⟩ : ∃ n, le ((b.drop 25).take 1) = n := ⟨_, rfl⟩
      rw [hn1, hn2, hn3, hn4]
      rw [hn4] at L4
      rw [hn1] at L1
      rw [hn2] at L2
      rw [hn3] at L3
      have HN := Lib.hid (And.intro hn1 (And.intro hn2 (And.intro hn3 hn4)))
      clear hn1 hn2 hn3 hn4 EI EV hx hru h64
      unfold headA
      simp only
      have RS := Lib.hid (rd_start (w := w) (g := g) (b := b) (ext := ext) (t2 := 89) (row2 := #[.int .u64 0, .int .u64 0, .int .u64 0, .int .i64 0]) hgl hru2.out H64.out hmx #[.slice (some ⟨g, 0, none⟩) 64 (64 + ext.length)])
      go_enter Try.func79, Try.ntmps79
      go_wp2_with fail
      obtain ⟨b1, hb1⟩ : ∃ x, w.heap.size = x := ⟨_, rfl⟩
      obtain ⟨b2, hb2⟩ : ∃ x, w.heap.size + 1 = x := ⟨_, rfl⟩
      have HB := Lib.hid (And.intro hb1 hb2)
      rw [hb2, hb1] at RS ⊢
      clear hb1 hb2
      show Calls _ _ #[_, .int .i64 ((8 : Nat) : Int)] _ _
      refine (rd_get RS.out 8 (by omega) (by omega)).mono ?_
      rintro e w0 ⟨rfl, r0, f0⟩
      have R0 := Lib.hid r0
      rw [HN.out.1]
      clear r0 f0 RS
      go_wp2_with fail
      show Calls _ _ #[_, .int .i64 ((8 : Nat) : Int)] _ _
      refine (rd_get R0.out 8 (by omega) (by omega)).mono ?_
      rintro e w1 ⟨rfl, r1, f1⟩
      have R1 := Lib.hid r1
      rw [HN.out.2.1]
      clear r1 f1 R0
      go_wp2_with fail
      show Calls _ _ #[_, .int .i64 ((8 : Nat) : Int)] _ _
      refine (rd_get R1.out 8 (by omega) (by omega)).mono ?_
      rintro e w2 ⟨rfl, r2, f2⟩
      have R2 := Lib.hid r2
      rw [HN.out.2.2.1]
      obtain ⟨w3, hw3⟩ : ∃ w3, w2.alloc (.cells #[.int .u64 n1, .int .u64 n2, .int .u64 n3, .int .i64 0] 89) = w3 := ⟨_, rfl⟩
      obtain ⟨b3, hb3⟩ : ∃ b3, w2.heap.size = b3 := ⟨_, rfl⟩
      have R3 := Lib.hid (show Rd w w3 b1 b2 g b ext 25 #[.int .u64 0, .int .u64 0, .int .u64 0, .int .i64 0] by rw [← hw3]; exact r2.still ((Fr.refl _ w2).alloc _))
      have Q3 := Lib.hid (show rowOf w3 b3 = #[.int .u64 n1, .int .u64 n2, .int .u64 n3, .int .i64 0] ∧ live w3 b3 = true ∧ b3 ≠ b1 ∧ b3 ≠ b2 ∧ w.heap.size ≤ b3 by
        have h1 := live_lt r2.cur.liv
        have h2 := live_lt r2.l2
        have h3 := r2.fr.size
        rw [← hw3, ← hb3]
        exact ⟨rowOf_alloc_at _ _ _ _ _ rfl, live_alloc_at _ _ _ _ rfl, by omega, by omega, h3⟩)
      have HW3 := Lib.hid (And.intro hw3 hb3)
      clear r2 f2 R1 R2 hw3 hb3
      go_wp2_with fail
      rw [HW3.out.1, HW3.out.2]
      have q3 := Q3.out.1
      have l33 := Q3.out.2.1
      have n31 := Q3.out.2.2.1
      have n32 := Q3.out.2.2.2.1
      clear HW3
      show Calls _ _ #[_, .int .i64 ((1 : Nat) : Int)] _ _
      refine (rd_get R3.out 1 (by omega) (by omega)).mono ?_
      rintro e w4 ⟨rfl, r4, f4⟩
      have R4 := Lib.hid r4
      rw [HN.out.2.2.2]
      have q4 := (f4.row (live_lt l33) n31).trans q3
      have l34 := (f4.liv (live_lt l33) n31).trans l33
      clear r4 f4 q3 l33
      have r26 := R4.out.r2
      have l26 := R4.out.l2
      have n32' : b2 ≠ b3 := fun e => n32 e.symm
      have FA := Lib.hid (R4.out.fr.setNew (g := b3) Q3.out.2.2.2.2 #[.int .u64 n1, .int .u64 n2, .int .u64 n3, .int .i64 n4])
      by_cases ha : (n4 : Int) ≤ 1
      · have ha2 : decide (n4 ≤ 1) = true := by simp; omega
        by_cases hb' : (n2 : Int) < 1099511627776
        · have hb2 : decide (n2 < 1099511627776) = true := by simp; omega
          by_cases hc' : (n3 : Int) < 1099511627776
          · have hc2 : decide (n3 < 1099511627776) = true := by simp; omega
            go_wp2
            go_region
            go_wp2
            refine bodyPost_ret (results79 rfl rfl (rowOf_setRow_same _ _ _ (by simpa [go_sem] using l26))) rfl ⟨by simp [*], ?_⟩
            exact (FA.out.drew).setNew (g := b2) (by have := HB.out.2; omega) _
          · have hc2 : decide (n3 < 1099511627776) = false := by simp; omega
            have hc3 : decide ((n3 : Int) < 1099511627776) = false := by simp; omega
            go_wp2
            go_region
            go_wp2
            refine bodyPost_ret (results79 rfl rfl (rowOf_setRow_same _ _ _ (by simpa [go_sem] using l26))) rfl ⟨by simp [*], ?_⟩
            exact (FA.out.drew).setNew (g := b2) (by have := HB.out.2; omega) _
        · have hb2 : decide (n2 < 1099511627776) = false := by simp; omega
          have hb3 : decide ((n2 : Int) < 1099511627776) = false := by simp; omega
          go_wp2
          go_region
          go_wp2
          refine bodyPost_ret (results79 rfl rfl (rowOf_setRow_same _ _ _ (by simpa [go_sem] using l26))) rfl ⟨by simp [*], ?_⟩
          exact (FA.out.drew).setNew (g := b2) (by have := HB.out.2; omega) _
      · have ha2 : decide (n4 ≤ 1) = false := by simp; omega
        have ha3 : decide ((n4 : Int) ≤ 1) = false := by simp; omega
        go_wp2
        go_region
        go_wp2
        refine bodyPost_ret (results79 rfl rfl (rowOf_setRow_same _ _ _ (by simpa [go_sem] using l26))) rfl ⟨by simp [*], ?_⟩
        exact (FA.out.drew).setNew (g := b2) (by have := HB.out.2; omega) _
    · have EI : rhIs b = false := by simp [rhIs, rhRaw, h64, hx, h177]
      have EV : rhV b = ⟨0, 0, 0, 0⟩ := by unfold rhV; simp [rhRaw, h64, hx, h177]
      have hne : ((x.toNat : Int) != 75) = true := by
        have : x.toNat ≠ 75 := fun e => h177 (UInt8.toNat_inj.1 e)
        simp; omega
      rw [EI, EV]
      clear EI EV hx hru h64
      go_enter Try.func79, Try.ntmps79
      go_wp2
      exact bodyPost_ret (results79 rfl rfl (rowOf_alloc_at _ _ _ _ _ (by simp))) rfl ⟨rfl, ((Fr.refl _ w).alloc _).alloc _⟩
  · have EI : rhIs b = false := by simp [rhIs, rhRaw, h64]
    have EV : rhV b = ⟨0, 0, 0, 0⟩ := by unfold rhV; simp [rhRaw, h64]
    rw [EI, EV]
    obtain ⟨a, cap, rfl⟩ := hv.shape
    obtain ⟨q, hq⟩ : ∃ q, b.length = q := ⟨_, rfl⟩
    rw [hq] at h64 ⊢
    have hne : ((q : Int) != 64) = true := by simp; omega
    clear EI EV hv hq h64
    go_enter Try.func79, Try.ntmps79
    go_wp2
    exact bodyPost_ret (results79 rfl rfl (rowOf_alloc_at _ _ _ _ _ (by simp))) rfl ⟨rfl, ((Fr.refl _ w).alloc _).alloc _⟩

end Go.Proofs.Ytflnlpbcmcfblaa
