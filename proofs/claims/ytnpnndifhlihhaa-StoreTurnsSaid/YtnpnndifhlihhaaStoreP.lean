/- Journals and the store as plain Lean, and how they lie in memory. No program is named here. -/
import Derived.Test.YtnpnndifhlihhaaMore
import Derived.Test.YtnpnndifhlihhaaJournalQ
namespace Go.Sl
open Go Go.RowKit
/-- A journal. -/
structure SJ where
  seq : Int
  ent : ByteArray
  period : Int
  kind : Int
  of : Int
  lines : List SItem
def SJ.cells (x : SJ) (A : Option Addr) (cap : Nat) : List Value := [.int .i64 x.seq, .string x.ent, .int .i64 x.period, .int .i64 x.kind, .int .i64 x.of, .slice A x.lines.length cap]
def kJ : Kd SJ where
  size := 6
  K h x cs := ∃ A cap, cs = x.cells A cap ∧ Ow kItem h A cap x.lines
  pos := by decide
  len := by rintro h x cs ⟨A, cap, rfl, _⟩; rfl
  one := by rintro h x cs ⟨A, cap, rfl, _⟩ u hu; simp [SJ.cells] at hu; rcases hu with rfl | rfl | rfl | rfl | rfl | rfl <;> rfl
  mono := by rintro h h' x cs ⟨A, cap, e, s⟩ l; exact ⟨A, cap, e, s.mono l⟩
/-- The cells of a journal in a slice of journals, and its lines. -/
theorem Sl.jou {h : Hp} {A : Option Addr} {cap : Nat} {xs : List SJ} {w : World} (s : Sl kJ h A cap xs) (hs : h.sub w) {i : Nat} {x : SJ} (hx : Hid (xs[i]? = some x)) :
    ∃ b off B cb, A = some ⟨b, off, .none⟩ ∧ Sl kItem h B cb x.lines ∧ w.cell? ⟨b, off + i * 6, .none⟩ = some (.int .i64 x.seq) ∧ w.cell? ⟨b, off + i * 6 + 1, .none⟩ = some (.string x.ent) ∧ w.cell? ⟨b, off + i * 6 + 2, .none⟩ = some (.int .i64 x.period) ∧
      w.cell? ⟨b, off + i * 6 + 3, .none⟩ = some (.int .i64 x.kind) ∧ w.cell? ⟨b, off + i * 6 + 4, .none⟩ = some (.int .i64 x.of) ∧ w.cell? ⟨b, off + i * 6 + 5, .none⟩ = some (.slice B x.lines.length cb) := by
  obtain ⟨b, off, cs, e, hK, _, hc⟩ := s.at hs hx.out
  obtain ⟨B, cb, rfl, sl⟩ := hK
  exact ⟨b, off, B, cb, e, sl.sl, by simpa [kJ] using hc 0 _ rfl, hc 1 _ rfl, hc 2 _ rfl, hc 3 _ rfl, hc 4 _ rfl, hc 5 _ rfl⟩
/-- The store's own struct. -/
def kSt : Kd (List SJ) where
  size := 1
  K h js cs := ∃ A cap, cs = [.slice A js.length cap] ∧ Ow kJ h A cap js
  pos := by decide
  len := by rintro h x cs ⟨A, cap, rfl, _⟩; rfl
  one := by rintro h x cs ⟨A, cap, rfl, _⟩ u hu; simp at hu; subst hu; rfl
  mono := by rintro h h' x cs ⟨A, cap, e, s⟩ l; exact ⟨A, cap, e, s.mono l⟩
end Go.Sl
