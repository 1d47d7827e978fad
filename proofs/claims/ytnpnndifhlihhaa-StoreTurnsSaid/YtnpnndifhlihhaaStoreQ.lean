/- Plain facts about posts. -/
import Derived.Test.YtnpnndifhlihhaaStoreEnv
import Derived.Test.YtnpnndifhlihhaaRight
namespace Go.Sl
open Go.RowKit Go.Proofs.Ytnpnndifhlihhaa
theorem wrapNeg {n : Int} (h : -100000000000 ≤ n ∧ n ≤ 100000000000) : wrap64 (-n) = -n := by unfold wrap64; omega
theorem strNe {a b : List UInt8} (h : a ≠ b) : ¬ (ByteArray.toList ⟨a.toArray⟩ = ByteArray.toList ⟨b.toArray⟩) := by
  rw [tl_data, tl_data]; simpa using h
theorem argsBad_prov {ent : ByteArray} {p : Int} (he : ent.toList ≠ []) (hp : 0 ≤ p ∧ p ≤ 399) : argsBad ent p 1 0 = false := by
  simp [argsBad, he, hp]
theorem argsBad_rev {ent : ByteArray} {p of : Int} (he : ent.toList ≠ []) (hp : 0 ≤ p ∧ p ≤ 399) : argsBad ent p 2 of = false := by
  simp [argsBad, he, hp]
theorem linesE_prov (js : List SJ) (ent : ByteArray) (p of : Int) (xs : List SItem) : linesE js ent p 1 of xs = checkE xs := by simp [linesE]
section
variable {js : List SJ} {ent : ByteArray} {p of : Int} {xs : List SItem}
theorem postE_good {kind : Int} (ha : argsBad ent p kind of = false) (hL : linesE js ent p kind of xs = 0) (hl : js.length < 200) (hb : ∀ x ∈ xs, money (balance js ent x.kind 399 + x.amt) = true) : postE js ent p kind of xs = 0 := by
  have h3 : xs.any (overX js ent) = false := by rw [List.any_eq_false]; intro x hx; simp [overX, hb x hx]
  unfold postE
  rw [if_neg (by rw [ha]; decide), hL, if_neg (by decide), if_neg (by omega), h3, if_neg (by decide)]
theorem postE_prov (he : ent.toList ≠ []) (hp : 0 ≤ p ∧ p ≤ 399) (hc : checkE xs = 0) (hl : js.length < 200) (hb : ∀ x ∈ xs, money (balance js ent x.kind 399 + x.amt) = true) : postE js ent p 1 0 xs = 0 :=
  postE_good (argsBad_prov he hp) (by rw [linesE_prov]; exact hc) hl hb
theorem postE_args {kind : Int} (h : argsBad ent p kind of = true) : postE js ent p kind of xs = 1 := by unfold postE; rw [if_pos h]
theorem postE_lines {kind q : Int} (ha : argsBad ent p kind of = false) (hL : linesE js ent p kind of xs = q) (h0 : q ≠ 0) : postE js ent p kind of xs = q := by
  unfold postE; rw [if_neg (by rw [ha]; decide), hL, if_pos h0]
theorem postE_limit {kind : Int} (ha : argsBad ent p kind of = false) (hL : linesE js ent p kind of xs = 0) (hl : 200 ≤ js.length) : postE js ent p kind of xs = 5 := by
  unfold postE; rw [if_neg (by rw [ha]; decide), hL, if_neg (by decide), if_pos hl]
theorem postE_over {kind : Int} (ha : argsBad ent p kind of = false) (hL : linesE js ent p kind of xs = 0) (hl : js.length < 200) {x : SItem} (hx : x ∈ xs) (hb : money (balance js ent x.kind 399 + x.amt) = false) : postE js ent p kind of xs = 6 := by
  unfold postE
  rw [if_neg (by rw [ha]; decide), hL, if_neg (by decide), if_neg (by omega), if_pos (List.any_eq_true.2 ⟨x, hx, by simp [overX, hb]⟩)]
theorem linesE_rev {q : Int} (h : revE js ent p of = q) (h0 : q ≠ 0) : linesE js ent p 2 of xs = q := by unfold linesE; rw [if_pos rfl, h, if_pos h0]
theorem linesE_revOk {x : SJ} (h : revE js ent p of = 0) (hx : revX js of = some x) (hc : checkE xs = 0) (e : xs = reverseL x.lines) : linesE js ent p 2 of xs = 0 := by
  unfold linesE; rw [if_pos rfl, h, if_neg (by decide), hc, if_neg (by decide), hx]; simp [eqB, e]
theorem linesE_revForm {x : SJ} (h : revE js ent p of = 0) (hx : revX js of = some x) (hc : checkE xs = 0) (e : xs ≠ reverseL x.lines) : linesE js ent p 2 of xs = 2 := by
  unfold linesE; rw [if_pos rfl, h, if_neg (by decide), hc, if_neg (by decide), hx]; simp [eqB, e]
end
theorem balance_nil (ent : ByteArray) (a upto : Int) : balance [] ent a upto = 0 := rfl
theorem share_in {ent : ByteArray} {a upto : Int} {x : SJ} (h : x.ent.toList = ent.toList) (hp : x.period ≤ upto) : share ent a upto x = netF x.lines a := if_pos ⟨h, hp⟩
theorem share_out {ent : ByteArray} {a upto : Int} {x : SJ} (h : x.ent.toList ≠ ent.toList) : share ent a upto x = 0 := if_neg fun e => h e.1
theorem share_late {ent : ByteArray} {a upto : Int} {x : SJ} (h : upto < x.period) : share ent a upto x = 0 := if_neg fun e => by omega
theorem trialTo_congr {f g : Int → Int} : ∀ n : Nat, (∀ k : Int, 1 ≤ k → k ≤ n → f k = g k) → trialTo f n = trialTo g n
  | 0, _ => rfl
  | n + 1, h => by
    have h1 := h (n + 1) (by omega) (by omega)
    simp only [trialTo, h1, trialTo_congr n fun k a b => h k a (by omega)]
/-- A trial balance that is known account by account. -/
theorem trial_merge {js : List SJ} {ent : ByteArray} {upto : Int} {z : List SItem} (h : ∀ k, 1 ≤ k → k ≤ 7 → balance js ent k upto = accSum k z) : trial js ent upto = merge z := by
  unfold trial merge
  rw [mergeTo_trial]
  exact trialTo_congr 7 h
theorem trial_none {js : List SJ} {ent : ByteArray} {upto : Int} (h : ∀ k, 1 ≤ k → k ≤ 7 → balance js ent k upto = 0) : trial js ent upto = [] := by
  rw [trial_merge (z := []) (fun k a b => by rw [h k a b]; rfl)]; rfl
theorem check_of {xs : List SItem} (h : checkB xs = true) : checkE xs = 0 := by unfold checkE; rw [if_pos h]
theorem Fine.checkE {xs : List SItem} (f : Fine xs) : checkE xs = 0 := check_of f.check
theorem Fine.net {xs : List SItem} (f : Fine xs) (a : Int) : netF xs a = accSum a xs := by unfold netF; rw [if_pos f.few]
theorem accSum_reverse {xs : List SItem} (h : ∀ x ∈ xs, -100000000000 ≤ x.amt ∧ x.amt ≤ 100000000000) (a : Int) : accSum a (reverseL xs) = -accSum a xs := by
  induction xs with
  | nil => rfl
  | cons x xs ih =>
    have h1 := ih fun y hy => h y (by simp [hy])
    have h2 := wrapNeg (h x (by simp))
    simp only [reverseL, List.map_cons, accSum] at h1 ⊢
    rw [h1, h2]
    split <;> omega
end Go.Sl
