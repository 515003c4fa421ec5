/-
  Package keystonetop: a transaction of a play is turned.
-/
import Derived.Test.YteldfmgjbgedaaaGreatOdf
namespace Go.Proofs.YteldfmgjbgedaaaGreat
open Go.RowKit Go.Maps

section
variable {w w3 : World} {cls : Nat → Nat} {pp m : Nat} {S : PS}

/-- Who is who behind an append. -/
def clsG (cls : Nat → Nat) (g L : Nat) : Nat → Nat := fun k => if k = g then L else cls k
theorem clsG_at (cls : Nat → Nat) (g L : Nat) : clsG cls g L g = L := if_pos rfl
theorem clsG_old {cls : Nat → Nat} {own : Value} {g L : Nat} (hown : ∀ k, own.ownBlock = some k → cls k = L) (hn : own.ownBlock = some g ∨ w.heap.size ≤ g) {k : Nat} (hk : k < w.heap.size) : clsG cls g L k = cls k := by
  by_cases e : k = g
  · rcases hn with e2 | e2
    · rw [e, clsG_at]; exact (hown _ e2).symm
    · omega
  · exact if_neg e

/-- It is over. -/
theorem Play.overed (h : Play w cls pp m S) {n : Nat} {p : PT} (hp : S.l[n]? = some p) {g c : Nat} (hv : S.vl = .slice (some ⟨g, 0, none⟩) S.l.length c) : Play (w.setRow g ((rowOf w g).setIfInBounds (n * 6 + 2) (.bool true))) cls pp m { S with l := S.l.set n { p with over := true } } :=
  h.setT1 hp hv (Fr.refl (fun _ => False) w) (fun _ _ e => e.elim) (fun _ _ => rfl) (by omega) (.bool true) (fun j hj => match j, hj with | 0, _ => rfl | 1, _ => rfl | 2, _ => rfl | 3, _ => rfl | 4, _ => rfl | 5, _ => rfl) (h.hr n p hp) (h.hg n p hp) (h.hw n p hp)

/-- A read more. -/
theorem Play.grow_rd (h : Play w cls pp m S) {n : Nat} {p : PT} (hp : S.l[n]? = some p) {g c : Nat} (hv : S.vl = .slice (some ⟨g, 0, none⟩) S.l.length c) (z : Key × Nat) {g' len cap' : Nat} (ho : OwnRows w3 (.slice (some ⟨g', 0, none⟩) len cap') 4 ((p.rd).map (rdA p.tx) ++ ([z]).map (rdA p.tx)) 0)
    (hf : Fr (fun i => p.vr.ownBlock = some i) w w3) (hn : p.vr.ownBlock = some g' ∨ w.heap.size ≤ g') :
    Play (w3.setRow g ((rowOf w3 g).setIfInBounds (n * 6 + 3) (.slice (some ⟨g', 0, none⟩) len cap'))) (clsG cls g' (12 + 3 * n)) pp m { S with l := S.l.set n { p with rd := p.rd ++ [z], vr := .slice (some ⟨g', 0, none⟩) len cap' } } := by
  refine h.setT1 hp hv hf (fun k _ e => by have := (h.hr n p hp).2 k e; omega) (fun k hk => clsG_old (h.hr n p hp).2 hn hk) (by omega) _ (fun j hj => match j, hj with | 0, _ => rfl | 1, _ => rfl | 2, _ => rfl | 3, _ => rfl | 4, _ => rfl | 5, _ => rfl) ?_ ?_ ?_
  · exact ⟨by
      have := ho
      first | (simpa using this) | (simpa [strRows] using this), fun k hk => by injection hk with hk; rw [← hk]; exact clsG_at _ _ _⟩
  · exact ⟨(h.hg n p hp).1.keep hf (fun k hk e => by have h1 := (h.hg n p hp).2 k hk; have h2 := (h.hr n p hp).2 k e; omega), fun k hk => (clsG_old (h.hr n p hp).2 hn ((h.hg n p hp).1.lt hk).2).trans ((h.hg n p hp).2 k hk)⟩
  · exact ⟨(h.hw n p hp).1.keep hf (fun k hk e => by have h1 := (h.hw n p hp).2 k hk; have h2 := (h.hr n p hp).2 k e; omega), fun k hk => (clsG_old (h.hr n p hp).2 hn ((h.hw n p hp).1.lt hk).2).trans ((h.hw n p hp).2 k hk)⟩

/-- A range more. -/
theorem Play.grow_rg (h : Play w cls pp m S) {n : Nat} {p : PT} (hp : S.l[n]? = some p) {g c : Nat} (hv : S.vl = .slice (some ⟨g, 0, none⟩) S.l.length c) (z : Key × Key) {g' len cap' : Nat} (ho : OwnRows w3 (.slice (some ⟨g', 0, none⟩) len cap') 4 ((p.rg).map (rgA n) ++ ([z]).map (rgA n)) 0)
    (hf : Fr (fun i => p.vg.ownBlock = some i) w w3) (hn : p.vg.ownBlock = some g' ∨ w.heap.size ≤ g') :
    Play (w3.setRow g ((rowOf w3 g).setIfInBounds (n * 6 + 4) (.slice (some ⟨g', 0, none⟩) len cap'))) (clsG cls g' (13 + 3 * n)) pp m { S with l := S.l.set n { p with rg := p.rg ++ [z], vg := .slice (some ⟨g', 0, none⟩) len cap' } } := by
  refine h.setT1 hp hv hf (fun k _ e => by have := (h.hg n p hp).2 k e; omega) (fun k hk => clsG_old (h.hg n p hp).2 hn hk) (by omega) _ (fun j hj => match j, hj with | 0, _ => rfl | 1, _ => rfl | 2, _ => rfl | 3, _ => rfl | 4, _ => rfl | 5, _ => rfl) ?_ ?_ ?_
  · exact ⟨(h.hr n p hp).1.keep hf (fun k hk e => by have h1 := (h.hr n p hp).2 k hk; have h2 := (h.hg n p hp).2 k e; omega), fun k hk => (clsG_old (h.hg n p hp).2 hn ((h.hr n p hp).1.lt hk).2).trans ((h.hr n p hp).2 k hk)⟩
  · exact ⟨by
      have := ho
      first | (simpa using this) | (simpa [strRows] using this), fun k hk => by injection hk with hk; rw [← hk]; exact clsG_at _ _ _⟩
  · exact ⟨(h.hw n p hp).1.keep hf (fun k hk e => by have h1 := (h.hw n p hp).2 k hk; have h2 := (h.hg n p hp).2 k e; omega), fun k hk => (clsG_old (h.hg n p hp).2 hn ((h.hw n p hp).1.lt hk).2).trans ((h.hw n p hp).2 k hk)⟩

/-- A write more. -/
theorem Play.grow_wr (h : Play w cls pp m S) {n : Nat} {p : PT} (hp : S.l[n]? = some p) {g c : Nat} (hv : S.vl = .slice (some ⟨g, 0, none⟩) S.l.length c) (z : Key) {g' len cap' : Nat} (ho : OwnRows w3 (.slice (some ⟨g', 0, none⟩) len cap') 1 (strRows (p.wr) ++ strRows ([z])) 0)
    (hf : Fr (fun i => p.vw.ownBlock = some i) w w3) (hn : p.vw.ownBlock = some g' ∨ w.heap.size ≤ g') :
    Play (w3.setRow g ((rowOf w3 g).setIfInBounds (n * 6 + 5) (.slice (some ⟨g', 0, none⟩) len cap'))) (clsG cls g' (14 + 3 * n)) pp m { S with l := S.l.set n { p with wr := p.wr ++ [z], vw := .slice (some ⟨g', 0, none⟩) len cap' } } := by
  refine h.setT1 hp hv hf (fun k _ e => by have := (h.hw n p hp).2 k e; omega) (fun k hk => clsG_old (h.hw n p hp).2 hn hk) (by omega) _ (fun j hj => match j, hj with | 0, _ => rfl | 1, _ => rfl | 2, _ => rfl | 3, _ => rfl | 4, _ => rfl | 5, _ => rfl) ?_ ?_ ?_
  · exact ⟨(h.hr n p hp).1.keep hf (fun k hk e => by have h1 := (h.hr n p hp).2 k hk; have h2 := (h.hw n p hp).2 k e; omega), fun k hk => (clsG_old (h.hw n p hp).2 hn ((h.hr n p hp).1.lt hk).2).trans ((h.hr n p hp).2 k hk)⟩
  · exact ⟨(h.hg n p hp).1.keep hf (fun k hk e => by have h1 := (h.hg n p hp).2 k hk; have h2 := (h.hw n p hp).2 k e; omega), fun k hk => (clsG_old (h.hw n p hp).2 hn ((h.hg n p hp).1.lt hk).2).trans ((h.hg n p hp).2 k hk)⟩
  · exact ⟨by
      have := ho
      first | (simpa using this) | (simpa [strRows] using this), fun k hk => by injection hk with hk; rw [← hk]; exact clsG_at _ _ _⟩

end
end Go.Proofs.YteldfmgjbgedaaaGreat
