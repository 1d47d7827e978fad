/- The functions over lines, in a body's own memory. -/
import Derived.Test.YtnpnndifhlihhaaEnv
import Derived.Test.YtnpnndifhlihhaaSameLine
import Derived.Test.YtnpnndifhlihhaaCopyLine
import Derived.Test.YtnpnndifhlihhaaRight
namespace Go.Proofs.Ytnpnndifhlihhaa
open Go.RowKit Go.Sl
set_option maxHeartbeats 1000000
set_option maxRecDepth 100000
section
variable {w0 w : World} {l : List Hp} {k k2 : Hp} {A B : Option Addr} {ca cb : Nat} {xs ys : List SItem}
theorem Lin.right (E : Env w0 w l) {ks ams : List Int} {h1 h2 : Hp} (s1 : h1.sub w0) (s2 : h2.sub w0) (sx : Sl kInt h1 A ca ks) (sy : Sl kInt h2 B cb ams) (hw : ∀ n ∈ ams, I64 n) :
    Calls Try.prog 28 #[.slice A ks.length ca, .slice B ams.length cb] w fun e w' => ∃ C cap h', e = .returned (.slice C (rightL ks ams).length cap) ∧ Ow kItem h' C cap (rightL ks ams) ∧ Env w0 w' (l ++ [h']) :=
  (playRight_calls A B ca cb ks ams h1 h2 w (E.arg s1) (E.arg s2) sx sy hw).mono fun _ _ ⟨C, cap, h', he, ho, u⟩ => ⟨C, cap, h', he, ho, E.new u⟩
theorem Lin.reverse (E : Env w0 w l) (ks : k.sub w) (sx : Sl kItem k A ca xs) (n : Nat) (hn : xs.length = n) (hl : n ≤ 1000000) :
    Calls Try.prog 29 #[.slice A n ca] w fun e w' => ∃ C cap h', e = .returned (.slice C n cap) ∧ Ow kItem h' C cap (reverseL xs) ∧ Env w0 w' (l ++ [h']) := by
  subst hn
  exact (reverse_calls A ca xs k w ks sx hl).mono fun _ _ ⟨C, cap, h', he, ho, u⟩ => ⟨C, cap, h', he, ho, E.new u⟩
theorem Lin.copy (E : Env w0 w l) (ks : k.sub w) (sx : Sl kItem k A ca xs) (n : Nat) (hn : xs.length = n) (hl : n ≤ 1000000) :
    Calls Try.prog 25 #[.slice A n ca] w fun e w' => ∃ C cap h', e = .returned (.slice C n cap) ∧ Ow kItem h' C cap xs ∧ Env w0 w' (l ++ [h']) := by
  subst hn
  exact (copy_line A ca xs k w ks sx hl).mono fun _ _ ⟨C, cap, h', he, ho, u⟩ => ⟨C, cap, h', he, ho, E.new u⟩
theorem Lin.merge (E : Env w0 w l) (ks : k.sub w) (sx : Sl kItem k A ca xs) (n : Nat) (hn : xs.length = n) {q : List SItem} (hq : mergeF xs = q) :
    Calls Try.prog 24 #[.slice A n ca] w fun e w' => ∃ C cap h', e = .returned (.slice C q.length cap) ∧ Ow kItem h' C cap q ∧ Env w0 w' (l ++ [h']) := by
  subst hn
  subst hq
  exact (mergeF_calls A ca xs k w ks sx).mono fun _ _ ⟨C, cap, h', he, ho, u⟩ => ⟨C, cap, h', he, ho, E.new u⟩
theorem Lin.same (E : Env w0 w l) (ks : k.sub w) (ks2 : k2.sub w) (sx : Sl kItem k A ca xs) (sy : Sl kItem k2 B cb ys) (n m : Nat) (hn : xs.length = n) (hm : ys.length = m) (he : xs = ys) :
    Calls Try.prog 27 #[.slice A n ca, .slice B m cb] w fun e w' => e = .returned (.bool true) ∧ Env w0 w' l := by
  subst hn
  subst hm
  exact (same_line A B ca cb xs ys k k2 w ks ks2 sx sy).mono fun _ _ ⟨h1, b⟩ => ⟨by rw [h1, eqB_t he], E.below b⟩
end
end Go.Proofs.Ytnpnndifhlihhaa
