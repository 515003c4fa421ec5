/-
  Package serial: what read makes, in memory.
-/
import Derived.Test.YteldfmgjbgedaaaGreatMst
import Derived.Test.YteldfmgjbgedaaaGreatRkb
import Derived.StringKeys
namespace Go.Proofs.YteldfmgjbgedaaaGreat
open Go.RowKit Go.Maps

def actRow (a : PAct) : Array Value := #[.int .i64 (a.txn : Nat), .bool a.write, .string ⟨a.item.toArray⟩, .int .i64 (a.ver : Nat)]
def ownV (t : Nat) (k : Key) : Value := .agg #[.int .i64 (t : Nat), .string ⟨k.toArray⟩]
def depV (s t d : Nat) : Value := .agg #[.int .i64 (s : Nat), .int .i64 (t : Nat), .int .i64 (d : Nat)]

/-! ### keys -/
theorem law3 : Keyed Tryz.prog 3 := int_keyed Tryz.underlying3
theorem law9 : Keyed Tryz.prog 9 := string_keyed Tryz.underlying9
theorem law163 : Keyed Tryz.prog 163 := Keyed.of_law (deep_law_laid laidOut (m := 3) (by omega) (of_decide_eq_true (by kernel_rfl)) (by kernel_rfl) (by kernel_rfl))
theorem law172 : Keyed Tryz.prog 172 := Keyed.of_law (deep_law_laid laidOut (m := 3) (by omega) (of_decide_eq_true (by kernel_rfl)) (by kernel_rfl) (by kernel_rfl))
theorem key3 {n : Nat} (hn : n < 2 ^ 40) : keyOf Tryz.prog 3 (.int .i64 (n : Nat)) = some (.int .i64 (n : Nat)) := keyOf_int_mk Tryz.underlying3 (wf_nat hn)

theorem cellsOf3 : Tryz.prog.cellsOf 3 = 1 := by kernel_rfl
theorem cellsOf163 : Tryz.prog.cellsOf 163 = 2 := by kernel_rfl
theorem cellsOf172 : Tryz.prog.cellsOf 172 = 3 := by kernel_rfl
theorem keyType163 : Tryz.prog.keyType 163 = true := by kernel_rfl
theorem keyType172 : Tryz.prog.keyType 172 = true := by kernel_rfl
theorem lits163 (m : Nat) {n : Int} {b : ByteArray} (hn : (Lit.int .i64 n).wf = true) (hb : b.size ≤ maxLen) : ∃ ls, Tryz.prog.keyLits (m + 2) 163 [.int .i64 n, .string b] = some ls := by
  simp [Program.keyLits, Tryz.underlying163, Tryz.underlying9, Tryz.underlying3, cellsOf163, cellsOf9, cellsOf3, hn, hb]
theorem lits172 (m : Nat) {a b c : Int} (ha : (Lit.int .i64 a).wf = true) (hb : (Lit.int .i64 b).wf = true) (hc : (Lit.int .i64 c).wf = true) : ∃ ls, Tryz.prog.keyLits (m + 2) 172 [.int .i64 a, .int .i64 b, .int .i64 c] = some ls := by
  simp [Program.keyLits, Tryz.underlying172, Tryz.underlying3, cellsOf172, cellsOf3, ha, hb, hc]
theorem formed163 (a b : Value) : (Value.agg #[a, b]).formed Tryz.prog 163 = true := by simp [Value.formed, Tryz.underlying163, cellsOf163]
theorem formed172 (a b c : Value) : (Value.agg #[a, b, c]).formed Tryz.prog 172 = true := by simp [Value.formed, Tryz.underlying172, cellsOf172]
theorem ownV_key {t : Nat} {k : Key} (ht : t < 2 ^ 40) (hk : k.length ≤ maxLen) : ∃ kl, keyOf Tryz.prog 163 (ownV t k) = some kl := by
  obtain ⟨m, hm⟩ := types_many
  obtain ⟨ls, h⟩ := lits163 m (wf_nat ht) (b := ⟨k.toArray⟩) (by simpa [ByteArray.size] using hk)
  rw [← hm] at h
  refine ⟨.string (keyBytes ls), ?_⟩
  unfold keyOf ownV
  rw [Tryz.underlying163]
  show (if (Tryz.prog.keyType 163 && (Value.agg #[.int .i64 (t : Nat), .string ⟨k.toArray⟩]).formed Tryz.prog 163) = true then (Tryz.prog.keyLits (Tryz.prog.types.size + 1) 163 [.int .i64 (t : Nat), .string ⟨k.toArray⟩]).map (fun ls => Lit.string (keyBytes ls)) else none) = _
  rw [keyType163, formed163, h]; rfl
theorem depV_key {s t d : Nat} (hs : s < 2 ^ 40) (ht : t < 2 ^ 40) (hd : d < 2 ^ 40) : ∃ kl, keyOf Tryz.prog 172 (depV s t d) = some kl := by
  obtain ⟨m, hm⟩ := types_many
  obtain ⟨ls, h⟩ := lits172 m (wf_nat hs) (wf_nat ht) (wf_nat hd)
  rw [← hm] at h
  refine ⟨.string (keyBytes ls), ?_⟩
  unfold keyOf depV
  rw [Tryz.underlying172]
  show (if (Tryz.prog.keyType 172 && (Value.agg #[.int .i64 (s : Nat), .int .i64 (t : Nat), .int .i64 (d : Nat)]).formed Tryz.prog 172) = true then (Tryz.prog.keyLits (Tryz.prog.types.size + 1) 172 [.int .i64 (s : Nat), .int .i64 (t : Nat), .int .i64 (d : Nat)]).map (fun ls => Lit.string (keyBytes ls)) else none) = _
  rw [keyType172, formed172, h]; rfl
theorem strV_key {k : Key} (hk : k.length ≤ maxLen) : ∃ kl, keyOf Tryz.prog 9 (strV k) = some kl :=
  ⟨_, WideMaps.keyOf_string_mk Tryz.underlying9 (by simpa [ByteArray.size] using hk)⟩

theorem natV_inj {s t : Nat} (h : Value.int .i64 (s : Nat) = .int .i64 (t : Nat)) : s = t := by injection h with _ h; omega
theorem ownV_inj {s t : Nat} {k l : Key} (h : ownV s k = ownV t l) : s = t ∧ k = l := by
  simp only [ownV, Value.agg.injEq] at h
  have h := congrArg Array.toList h
  simp only [List.cons.injEq, and_true] at h
  exact ⟨natV_inj h.1, strV_inj h.2⟩

/-! ### the three maps -/
/-- place -/
def PlaceAt (w : World) (b n : Nat) (pl : Nat → Option Nat) : Prop := ∃ f, MapF w 3 b n f ∧ ∀ t, t < 2 ^ 40 → f (.int .i64 (t : Nat)) = (pl t).map fun i => .int .i64 (i : Nat)
/-- next -/
def NextAt (w : World) (b n : Nat) (nx : Nat → Key → Option Nat) : Prop := ∃ f, MapF w 163 b n f ∧ ∀ t k, t < 2 ^ 40 → k.length < 2 ^ 32 → f (ownV t k) = (nx t k).map fun i => .int .i64 (i : Nat)
/-- versions -/
structure VersAt (w : World) (b n : Nat) (f : Value → Option Value) (L : Key → List Nat) (V : Key → Value) (base : Nat) : Prop where
  map : MapF w 9 b n f
  at_ : ∀ k, k.length < 2 ^ 32 → f (strV k) = if L k = [] then none else some (V k)
  all : ∀ v x, f v = some x → ∃ k, v = strV k ∧ k.length < 2 ^ 32
  own : ∀ k, OwnRows w (V k) 1 (natRows (L k)) base
  inj : ∀ k l i, (V k).ownBlock = some i → (V l).ownBlock = some i → k = l

variable {w w' : World} {b n : Nat} {F : Nat → Prop}

theorem PlaceAt.fr {pl : Nat → Option Nat} (h : PlaceAt w b n pl) (hf : Fr F w w') (hb : ¬ F b) : PlaceAt w' b n pl := by
  obtain ⟨f, h1, h2⟩ := h
  exact ⟨f, h1.fr hf hb, h2⟩
theorem NextAt.fr {nx : Nat → Key → Option Nat} (h : NextAt w b n nx) (hf : Fr F w w') (hb : ¬ F b) : NextAt w' b n nx := by
  obtain ⟨f, h1, h2⟩ := h
  exact ⟨f, h1.fr hf hb, h2⟩
theorem NextAt.mono {nx : Nat → Key → Option Nat} (h : NextAt w b n nx) {n' : Nat} (hn : n ≤ n') : NextAt w b n' nx := by
  obtain ⟨f, h1, h2⟩ := h
  exact ⟨f, h1.mono hn, h2⟩
theorem VersAt.fr {f : Value → Option Value} {L : Key → List Nat} {V : Key → Value} {base : Nat} (h : VersAt w b n f L V base) (hf : Fr F w w') (hb : ¬ F b) (hv : ∀ k i, (V k).ownBlock = some i → ¬ F i) : VersAt w' b n f L V base :=
  ⟨h.map.fr hf hb, h.at_, h.all, fun k => (h.own k).keep hf (fun i hi e => hv k i hi e), h.inj⟩

theorem PlaceAt.store {pl : Nat → Option Nat} (h : PlaceAt w b n pl) (hn : n < maxLen) {t i : Nat} (ht : t < 2 ^ 40) :
    ∃ w', (Instr.mapUpdate 156 (.map (some b)) (.int .i64 (t : Nat)) (.int .i64 (i : Nat))).run Tryz.prog w = .ok () w' ∧ PlaceAt w' b (n + 1) (fun u => if u = t then some i else pl u) ∧ Fr (fun k => k = b) w w' := by
  obtain ⟨f, h1, h2⟩ := h
  obtain ⟨w', hr, h3, h4⟩ := h1.store law3 Tryz.underlying156 hn (.int .i64 (t : Nat)) (.int .i64 (i : Nat)) (key3 ht)
  refine ⟨w', hr, ⟨_, h3, fun u hu => ?_⟩, h4⟩
  by_cases e : u = t
  · subst e; rw [updF_same]; simp
  · rw [updF_ne f _ (fun h => e (natV_inj h)), h2 u hu]; simp [e]

theorem PlaceAt.look {pl : Nat → Option Nat} (h : PlaceAt w b n pl) {t : Nat} (ht : t < 2 ^ 40) :
    (Instr.lookup 156 (.map (some b)) (.int .i64 (t : Nat)) true).run Tryz.prog w = .ok (.tuple #[.int .i64 (((pl t).getD 0 : Nat) : Int), .bool (pl t).isSome]) w := by
  obtain ⟨f, h1, h2⟩ := h
  have := h1.look law3 Tryz.underlying156 (Tryz.zeroValue3 w) (.int .i64 (t : Nat)) (key3 ht)
  rw [this, h2 t ht]
  cases pl t <;> rfl
theorem PlaceAt.look1 {pl : Nat → Option Nat} (h : PlaceAt w b n pl) {t : Nat} (ht : t < 2 ^ 40) :
    (Instr.lookup 156 (.map (some b)) (.int .i64 (t : Nat)) false).run Tryz.prog w = .ok (.int .i64 (((pl t).getD 0 : Nat) : Int)) w := by
  obtain ⟨f, h1, h2⟩ := h
  have := h1.look1 law3 Tryz.underlying156 (Tryz.zeroValue3 w) (.int .i64 (t : Nat)) (key3 ht)
  rw [this, h2 t ht]
  cases pl t <;> rfl

theorem lenK {k : Key} (h : k.length < 2 ^ 32) : k.length ≤ maxLen := by simp only [maxLen]; omega

theorem NextAt.store {nx : Nat → Key → Option Nat} (h : NextAt w b n nx) (hn : n < maxLen) {t i : Nat} {k : Key} (ht : t < 2 ^ 40) (hk : k.length < 2 ^ 32) :
    ∃ w', (Instr.mapUpdate 158 (.map (some b)) (ownV t k) (.int .i64 (i : Nat))).run Tryz.prog w = .ok () w' ∧ NextAt w' b (n + 1) (fun u l => if u = t ∧ l = k then some i else nx u l) ∧ Fr (fun k => k = b) w w' := by
  obtain ⟨f, h1, h2⟩ := h
  obtain ⟨kl, hkl⟩ := ownV_key ht (lenK hk)
  obtain ⟨w', hr, h3, h4⟩ := h1.store law163 Tryz.underlying158 hn (ownV t k) (.int .i64 (i : Nat)) hkl
  refine ⟨w', hr, ⟨_, h3, fun u l hu hl => ?_⟩, h4⟩
  by_cases e : u = t ∧ l = k
  · obtain ⟨rfl, rfl⟩ := e; rw [updF_same]; simp
  · rw [updF_ne f _ (fun h => e (ownV_inj h)), h2 u l hu hl]; simp only [if_neg e]

theorem NextAt.look {nx : Nat → Key → Option Nat} (h : NextAt w b n nx) {t : Nat} {k : Key} (ht : t < 2 ^ 40) (hk : k.length < 2 ^ 32) :
    (Instr.lookup 158 (.map (some b)) (ownV t k) true).run Tryz.prog w = .ok (.tuple #[.int .i64 (((nx t k).getD 0 : Nat) : Int), .bool (nx t k).isSome]) w := by
  obtain ⟨f, h1, h2⟩ := h
  obtain ⟨kl, hkl⟩ := ownV_key ht (lenK hk)
  have := h1.look law163 Tryz.underlying158 (Tryz.zeroValue3 w) (ownV t k) hkl
  rw [this, h2 t k ht hk]
  cases nx t k <;> rfl
theorem NextAt.look1 {nx : Nat → Key → Option Nat} (h : NextAt w b n nx) {t : Nat} {k : Key} (ht : t < 2 ^ 40) (hk : k.length < 2 ^ 32) :
    (Instr.lookup 158 (.map (some b)) (ownV t k) false).run Tryz.prog w = .ok (.int .i64 (((nx t k).getD 0 : Nat) : Int)) w := by
  obtain ⟨f, h1, h2⟩ := h
  obtain ⟨kl, hkl⟩ := ownV_key ht (lenK hk)
  have := h1.look1 law163 Tryz.underlying158 (Tryz.zeroValue3 w) (ownV t k) hkl
  rw [this, h2 t k ht hk]
  cases nx t k <;> rfl

section
variable {f : Value → Option Value} {L : Key → List Nat} {V : Key → Value} {base : Nat}
theorem VersAt.nil (h : VersAt w b n f L V base) {k : Key} (hk : L k = []) : V k = .slice none 0 0 := by
  rcases h.own k with ⟨h1, -⟩ | ⟨g, cap, -, -, -, ⟨-, h0⟩, -⟩
  · exact h1
  · rw [natRows_length, hk] at h0; cases h0
theorem VersAt.get (h : VersAt w b n f L V base) {k : Key} (hk : k.length < 2 ^ 32) : (f (strV k)).getD (.slice none 0 0) = V k := by
  rw [h.at_ k hk]
  by_cases e : L k = []
  · rw [if_pos e, h.nil e]; rfl
  · rw [if_neg e]; rfl
theorem VersAt.look1 (h : VersAt w b n f L V base) {k : Key} (hk : k.length < 2 ^ 32) :
    (Instr.lookup 157 (.map (some b)) (strV k) false).run Tryz.prog w = .ok (V k) w := by
  obtain ⟨kl, hkl⟩ := strV_key (lenK hk)
  have := h.map.look1 law9 Tryz.underlying157 (Tryz.zeroValue32 w) (strV k) hkl
  rw [this, h.get hk]

/-- One item's slice is another one (its block: the old one or a new one). -/
theorem VersAt.turn {w0 : World} (h : VersAt w0 b n f L V base) (hf : Fr F w0 w) (hb : ¬ F b) {k : Key} (hF : ∀ i, F i → (V k).ownBlock = some i) (hn : n < maxLen) (hk : k.length < 2 ^ 32) {v : Value} {l : List Nat} (hl : l ≠ []) (ho : OwnRows w v 1 (natRows l) base) (hv : ∀ i, v.ownBlock = some i → (V k).ownBlock = some i ∨ w0.heap.size ≤ i) :
    ∃ w' f', (Instr.mapUpdate 157 (.map (some b)) (strV k) v).run Tryz.prog w = .ok () w' ∧ VersAt w' b (n + 1) f' (fun u => if u = k then l else L u) (fun u => if u = k then v else V u) base ∧ Fr (fun k => k = b) w w' := by
  obtain ⟨kl, hkl⟩ := strV_key (lenK hk)
  have hm := h.map.fr hf hb
  obtain ⟨w', hr, h3, h4⟩ := hm.store law9 Tryz.underlying157 hn (strV k) v hkl
  have hnb : ∀ {u : Value} {ys : List (Array Value)} {bs : Nat}, OwnRows w u 1 ys bs → ∀ i, u.ownBlock = some i → ¬ i = b := fun ho i hi e => ho.ne_map hm (by rw [hi, e])
  refine ⟨w', _, hr, ⟨h3, fun u hu => ?_, fun u x hx => ?_, fun u => ?_, fun u l' i h1 h2 => ?_⟩, h4⟩
  · by_cases e : u = k
    · subst e; rw [updF_same]; simp [hl]
    · rw [updF_ne f _ (fun h => e (strV_inj h)), h.at_ u hu]; simp [e]
  · by_cases e : u = strV k
    · exact ⟨k, e, hk⟩
    · rw [updF_ne f _ e] at hx; exact h.all u x hx
  · by_cases e : u = k
    · subst e; simp only [if_true]; exact ho.keep h4 (fun i hi e => hnb ho i hi e)
    · simp only [if_neg e]
      have h5 : OwnRows w (V u) 1 (natRows (L u)) base := (h.own u).keep hf (fun i hi e2 => e (h.inj u k i hi (hF i e2)))
      exact h5.keep h4 (fun i hi e => hnb h5 i hi e)
  · have key : ∀ u i, u ≠ k → (V u).ownBlock = some i → v.ownBlock = some i → False := fun u i hu h1 h2 => by
      rcases hv i h2 with e | e
      · exact hu (h.inj u k i h1 e)
      · have := ((h.own u).lt h1).2; omega
    by_cases e1 : u = k
    · by_cases e2 : l' = k
      · rw [e1, e2]
      · simp only [if_pos e1, if_neg e2] at h1 h2
        exact (key l' i e2 h2 h1).elim
    · by_cases e2 : l' = k
      · simp only [if_neg e1, if_pos e2] at h1 h2
        exact (key u i e1 h1 h2).elim
      · simp only [if_neg e1, if_neg e2] at h1 h2
        exact h.inj u l' i h1 h2
end
end Go.Proofs.YteldfmgjbgedaaaGreat
