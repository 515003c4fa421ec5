/-
  What a disk is (plain), and how it lies in memory.
-/
import Derived.Test.YtflnlpbcmcfblaaDisk2
namespace Go.Proofs.Ytflnlpbcmcfblaa
open Go.RowKit

/-- A byte as a cell, bytes as cells. -/
def bv (b : UInt8) : Value := .int .u8 (b.toNat : Int)
def bvA (l : List UInt8) : Array Value := (l.map bv).toArray
@[go_sem] theorem bvA_size (l : List UInt8) : (bvA l).size = l.length := by simp [bvA]
theorem bvA_ones (l : List UInt8) : ones (bvA l) := by intro v hv; simp [bvA] at hv; obtain ⟨b, _, rfl⟩ := hv; rfl
theorem bvA_get (l : List UInt8) (i : Nat) : (bvA l)[i]? = l[i]?.map bv := by simp [bvA]
theorem bv_inj {a b : UInt8} (h : bv a = bv b) : a = b := by
  simp only [bv, Value.int.injEq, true_and] at h
  exact UInt8.toNat_inj.1 (by omega)
theorem bvA_inj {a b : List UInt8} (h : bvA a = bvA b) : a = b := by
  have h2 : a.map bv = b.map bv := by simpa [bvA] using h
  exact (List.map_inj_right (fun x y hxy => bv_inj hxy)).1 h2

/-- A disk: its blocks, which are torn, the pending writes, power, plan, counts. -/
structure DS where
  data : List (List UInt8)
  torn : List Bool
  pend : List (Nat × List UInt8)
  off : Bool
  pl : Bool
  left : Int
  wr : Int
  sy : Int

structure DS.Ok (S : DS) : Prop where
  n0 : 0 < S.data.length
  n1 : S.data.length ≤ 16384
  tl : S.torn.length = S.data.length
  dl : ∀ b ∈ S.data, b.length = 64
  pe : ∀ p ∈ S.pend, p.1 < S.data.length ∧ p.2.length = 64
  l0 : 0 ≤ S.left
  l1 : S.left ≤ 9223372036854775807

/-- Where a disk lies. -/
structure DP where
  d : Nat
  gb : Nat
  gt : Nat
  pv : Value

def DP.foot (p : DP) (k : Nat) : Prop := k = p.d ∨ k = p.gb ∨ k = p.gt ∨ p.pv.ownBlock = some k

/-- The pending writes in their slice. -/
def PendSl (w : World) (v : Value) (l : List (Nat × List UInt8)) : Prop :=
  (v = .slice none 0 0 ∧ l = []) ∨
  ∃ g cap, v = .slice (some ⟨g, 0, none⟩) l.length cap ∧ live w g = true ∧ (l.length ≤ cap ∧ 0 < l.length) ∧ cap ≤ maxLen ∧ (rowOf w g).size = cap * 65 ∧
    ∀ i (h : i < l.length), cut (rowOf w g) (i * 65) 65 = wrC l[i].1 (bvA l[i].2)

structure DiskRep (w : World) (p : DP) (S : DS) : Prop where
  ok : S.Ok
  ex : ∃ cb ct, DStruct w p.d (.slice (some ⟨p.gb, 0, none⟩) S.data.length cb) (.slice (some ⟨p.gt, 0, none⟩) S.data.length ct) p.pv S.off S.pl S.left S.wr S.sy ∧
    S.data.length ≤ cb ∧ S.data.length ≤ ct ∧ (rowOf w p.gb).size = cb * 64 ∧ (rowOf w p.gt).size = ct
  lb : live w p.gb = true
  lt : live w p.gt = true
  rb : ∀ i (h : i < S.data.length), cut (rowOf w p.gb) (i * 64) 64 = bvA S.data[i]
  rt : ∀ i (h : i < S.torn.length), (rowOf w p.gt)[i]? = some (.bool S.torn[i])
  rp : PendSl w p.pv S.pend
  n1 : p.d ≠ p.gb
  n2 : p.d ≠ p.gt
  n3 : p.gb ≠ p.gt
  n4 : p.pv.ownBlock ≠ some p.d ∧ p.pv.ownBlock ≠ some p.gb ∧ p.pv.ownBlock ≠ some p.gt

theorem PendSl.own {w : World} {v : Value} {l : List (Nat × List UInt8)} (h : PendSl w v l) {k : Nat} (hk : v.ownBlock = some k) : live w k = true := by
  rcases h with ⟨rfl, _⟩ | ⟨g, cap, rfl, hl, _⟩
  · cases hk
  · simp only [Value.ownBlock, Option.some.injEq] at hk; subst hk; exact hl

theorem PendSl.keep {w w' : World} {v : Value} {l : List (Nat × List UInt8)} (h : PendSl w v l) {F : Nat → Prop} (hf : Fr F w w') (hF : ∀ k, v.ownBlock = some k → ¬ F k) : PendSl w' v l := by
  rcases h with ⟨rfl, hl⟩ | ⟨g, cap, rfl, hl, h1, h2, h3, h4⟩
  · exact .inl ⟨rfl, hl⟩
  · have hg := live_lt hl
    have hn : ¬ F g := hF g rfl
    exact .inr ⟨g, cap, rfl, by rw [hf.liv hg hn]; exact hl, h1, h2, by rw [hf.row hg hn]; exact h3, by rw [hf.row hg hn]; exact h4⟩

theorem DStruct.keep {w w' : World} {d : Nat} {bv tv pv : Value} {off pl : Bool} {left wr sy : Int} (h : DStruct w d bv tv pv off pl left wr sy) {F : Nat → Prop} (hf : Fr F w w') (hF : ¬ F d) :
    DStruct w' d bv tv pv off pl left wr sy :=
  ⟨by rw [hf.row (live_lt h.liv) hF]; exact h.row, by rw [hf.liv (live_lt h.liv) hF]; exact h.liv⟩

theorem DiskRep.live_foot {w : World} {p : DP} {S : DS} (h : DiskRep w p S) {k : Nat} (hk : p.foot k) : live w k = true := by
  rcases hk with rfl | rfl | rfl | hk
  · obtain ⟨_, _, h, _⟩ := h.ex; exact h.liv
  · exact h.lb
  · exact h.lt
  · exact h.rp.own hk

theorem DiskRep.lt_foot {w : World} {p : DP} {S : DS} (h : DiskRep w p S) {k : Nat} (hk : p.foot k) : k < w.heap.size := live_lt (h.live_foot hk)

/-- A disk stays as it is where nothing of it is written. -/
theorem DiskRep.keep {w w' : World} {p : DP} {S : DS} (h : DiskRep w p S) {F : Nat → Prop} (hf : Fr F w w') (hF : ∀ k, p.foot k → ¬ F k) : DiskRep w' p S := by
  obtain ⟨cb, ct, hs, h1, h2, h3, h4⟩ := h.ex
  have fb := hF p.gb (.inr (.inl rfl))
  have ft := hF p.gt (.inr (.inr (.inl rfl)))
  have kb := live_lt h.lb
  have kt := live_lt h.lt
  exact ⟨h.ok, ⟨cb, ct, hs.keep hf (hF _ (.inl rfl)), h1, h2, by rw [hf.row kb fb]; exact h3, by rw [hf.row kt ft]; exact h4⟩,
    by rw [hf.liv kb fb]; exact h.lb, by rw [hf.liv kt ft]; exact h.lt, by rw [hf.row kb fb]; exact h.rb, by rw [hf.row kt ft]; exact h.rt,
    h.rp.keep hf (fun k hk => hF k (.inr (.inr (.inr hk)))), h.n1, h.n2, h.n3, h.n4⟩

/-- The struct and the pending writes of a disk are written anew, its blocks are not. -/
theorem DiskRep.upd {w w' : World} {p : DP} {S : DS} (h : DiskRep w p S) {F : Nat → Prop} (hf : Fr F w w') (fb : ¬ F p.gb) (ft : ¬ F p.gt) {cb ct : Nat} {pv0 : Value} {off0 pl0 : Bool} {left0 wr0 sy0 : Int}
    (hd0 : DStruct w p.d (.slice (some ⟨p.gb, 0, none⟩) S.data.length cb) (.slice (some ⟨p.gt, 0, none⟩) S.data.length ct) pv0 off0 pl0 left0 wr0 sy0) {pv' : Value} {l' : List (Nat × List UInt8)} {off' pl' : Bool} {left' wr' sy' : Int}
    (hd : DStruct w' p.d (.slice (some ⟨p.gb, 0, none⟩) S.data.length cb) (.slice (some ⟨p.gt, 0, none⟩) S.data.length ct) pv' off' pl' left' wr' sy')
    (hp : PendSl w' pv' l') (hne : pv'.ownBlock ≠ some p.d ∧ pv'.ownBlock ≠ some p.gb ∧ pv'.ownBlock ≠ some p.gt) (hok : ∀ q ∈ l', q.1 < S.data.length ∧ q.2.length = 64)
    (l0 : 0 ≤ left') (l1 : left' ≤ 9223372036854775807) :
    DiskRep w' { p with pv := pv' } { data := S.data, torn := S.torn, pend := l', off := off', pl := pl', left := left', wr := wr', sy := sy' } := by
  obtain ⟨cb1, ct1, hs, h1, h2, h3, h4⟩ := h.ex
  have e := hs.row.symm.trans hd0.row
  simp only [Array.mk.injEq, List.cons.injEq, Value.slice.injEq, true_and] at e
  obtain ⟨rfl, rfl, _⟩ := e
  have kb := live_lt h.lb
  have kt := live_lt h.lt
  exact ⟨⟨h.ok.n0, h.ok.n1, h.ok.tl, h.ok.dl, hok, l0, l1⟩, ⟨cb1, ct1, hd, h1, h2, by rw [hf.row kb fb]; exact h3, by rw [hf.row kt ft]; exact h4⟩,
    by rw [hf.liv kb fb]; exact h.lb, by rw [hf.liv kt ft]; exact h.lt, by rw [hf.row kb fb]; exact h.rb, by rw [hf.row kt ft]; exact h.rt,
    hp, h.n1, h.n2, h.n3, hne⟩

/-- What a call on a disk leaves of memory: only the disk's own rows have turned; its rows behind it are its rows ahead of it, or new. -/
structure Moves (F F' : Nat → Prop) (w w' : World) : Prop where
  fr : Fr F w w'
  new : ∀ k, F' k → F k ∨ w.heap.size ≤ k

theorem Moves.refl (F : Nat → Prop) (w : World) : Moves F F w w := ⟨Fr.refl _ _, fun _ h => .inl h⟩
theorem Moves.trans {F G H : Nat → Prop} {a b c : World} (h : Moves F G a b) (k : Moves G H b c) : Moves F H a c :=
  ⟨h.fr.trans k.fr (fun i hi hG => (h.new i hG).resolve_right (by omega)), fun i hi => by
    rcases k.new i hi with h1 | h1
    · exact h.new i h1
    · exact .inr (Nat.le_trans h.fr.size h1)⟩

/-! ### The calls, in plain -/

def zeros64 : List UInt8 := List.replicate 64 0

def DS.new (n : Nat) : DS := { data := List.replicate n zeros64, torn := List.replicate n false, pend := [], off := false, pl := false, left := 0, wr := 0, sy := 0 }

/-- Power for one thing more. -/
def DS.goes (S : DS) : DS := { S with off := goesOff S.off S.pl S.left, pl := goesPl S.pl S.left, left := goesLeft S.pl S.left }
def DS.goesB (S : DS) : Bool := Ytflnlpbcmcfblaa.goesB S.pl S.left

def DS.lay (S : DS) (p : Nat × List UInt8) : DS := { S with data := S.data.set p.1 p.2, torn := S.torn.set p.1 false }

def DS.ready (S : DS) (n : Int) : Int := readyI S.off n S.data.length

theorem readyI_zero {off : Bool} {n : Int} {nb : Nat} : readyI off n nb = 0 ↔ off = false ∧ 0 ≤ n ∧ n < nb := by
  unfold readyI
  cases off with
  | true => simp
  | false =>
    by_cases h : n < 0 ∨ (nb : Int) ≤ n
    · simp [h]; omega
    · simp [h]; omega

/-- Write: the error, and what the disk is behind it. -/
def DS.write (S : DS) (n : Int) (b : List UInt8) : Int × DS :=
  if S.ready n ≠ 0 then (S.ready n, S)
  else if b.length ≠ 64 then (21, S)
  else if S.goesB = false then (22, S.goes)
  else (0, { S.goes with pend := S.pend ++ [(n.toNat, b)], wr := wrap64 (S.wr + 1) })

def DS.layAll (S : DS) (l : List (Nat × List UInt8)) : DS := l.foldl DS.lay S

def DS.sync (S : DS) : Int × DS :=
  if S.ready 0 ≠ 0 then (S.ready 0, S)
  else if S.goesB = false then (22, S.goes)
  else (0, { S.goes.layAll S.pend with pend := [], sy := wrap64 (S.sy + 1) })

def DS.plan (S : DS) (n : Int) : Int × DS :=
  if S.off then (22, S) else (0, { S with pl := decide (0 ≤ n), left := if 0 ≤ n then n else 0 })

def DS.keepOne (S : DS) (x : (Nat × List UInt8) × Int) : DS :=
  if x.2 = 1 then S.lay x.1 else if x.2 = 2 then { S with torn := S.torn.set x.1.1 true } else S

def DS.crash (S : DS) (keep : List Int) : Int × DS :=
  if S.pend.length < keep.length then (1, S)
  else if ¬ (∀ k ∈ keep, 0 ≤ k ∧ k ≤ 2) then (1, S)
  else (0, { (S.pend.zip keep).foldl DS.keepOne S with pend := [], off := false, pl := false, left := 0 })

/-- The last pending write of a block. -/
def DS.lastOf (l : List (Nat × List UInt8)) (n : Nat) : Option (List UInt8) := (l.reverse.find? (·.1 == n)).map (·.2)

def DS.read (S : DS) (n : Int) : Int × Option (List UInt8) :=
  if S.ready n ≠ 0 then (S.ready n, none)
  else match DS.lastOf S.pend n.toNat with
    | some b => (0, some b)
    | none => if S.torn[n.toNat]?.getD false then (23, none) else (0, some (S.data[n.toNat]?.getD []))

end Go.Proofs.Ytflnlpbcmcfblaa
