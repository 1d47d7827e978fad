/- Walks and plain facts that the laws of this seat share, part 4: contracts of functions, each said at its theorem. -/
import Derived.Test.YtnfedcaehkcffaaGreatPk3
import Derived.Deep.QuietTactic
set_option linter.all false
section
/- Remeasuring, plain: why deferred tax is another one. -/
namespace Go.Sl
open Go Go.RowKit
/-- A row, its old rate, its rate now: may they be? -/
def remOk (r : SWay) (o n : Int) : Bool := rightRate o && (rightRate n && (money r.opn && money r.clo))
def remM (r : SWay) (n : Int) : Int := ofVal r.clo n - ofVal r.opn n
def remR (r : SWay) (o n : Int) : Int := ofVal r.opn n - ofVal r.opn o
def remAll : List SWay → List Int → List Int → Bool
  | r :: rows, o :: os, n :: ns => remOk r o n && remAll rows os ns
  | _, _, _ => true
def sumM : List SWay → List Int → Int
  | r :: rows, n :: ns => remM r n + sumM rows ns
  | _, _ => 0
def sumR : List SWay → List Int → List Int → Int
  | r :: rows, o :: os, n :: ns => remR r o n + sumR rows os ns
  | _, _, _ => 0
def remE (rows : List SWay) (os ns : List Int) : Int :=
  if os.length ≠ rows.length ∨ ns.length ≠ rows.length then 1
  else if remAll rows os ns = false then 1
  else if (money (sumM rows ns) && money (sumR rows os ns)) = false then 6 else 0
def remMo (rows : List SWay) (os ns : List Int) : Int := if remE rows os ns = 0 then sumM rows ns else 0
def remRa (rows : List SWay) (os ns : List Int) : Int := if remE rows os ns = 0 then sumR rows os ns else 0
theorem sumM_snoc {r : SWay} {n : Int} : ∀ {rows : List SWay} {ns : List Int}, rows.length = ns.length → sumM (rows ++ [r]) (ns ++ [n]) = sumM rows ns + remM r n
  | [], [], _ => by simp [sumM]
  | x :: rows, y :: ns, h => by
    have := sumM_snoc (r := r) (n := n) (rows := rows) (ns := ns) (by simpa using h)
    simp only [List.cons_append, sumM, this]; omega
  | [], _ :: _, h => by simp at h
  | _ :: _, [], h => by simp at h
theorem sumR_snoc {r : SWay} {o n : Int} : ∀ {rows : List SWay} {os ns : List Int}, rows.length = os.length → rows.length = ns.length → sumR (rows ++ [r]) (os ++ [o]) (ns ++ [n]) = sumR rows os ns + remR r o n
  | [], [], [], _, _ => by simp [sumR]
  | x :: rows, z :: os, y :: ns, h, h2 => by
    have := sumR_snoc (r := r) (o := o) (n := n) (rows := rows) (os := os) (ns := ns) (by simpa using h) (by simpa using h2)
    simp only [List.cons_append, sumR, this]; omega
  | [], _ :: _, _, h, _ => by simp at h
  | [], [], _ :: _, _, h => by simp at h
  | _ :: _, [], _, h, _ => by simp at h
  | _ :: _, _ :: _, [], _, h => by simp at h
theorem remAll_snoc {r : SWay} {o n : Int} : ∀ {rows : List SWay} {os ns : List Int}, rows.length = os.length → rows.length = ns.length → remAll (rows ++ [r]) (os ++ [o]) (ns ++ [n]) = (remAll rows os ns && remOk r o n)
  | [], [], [], _, _ => by simp [remAll]
  | x :: rows, z :: os, y :: ns, h, h2 => by
    have := remAll_snoc (r := r) (o := o) (n := n) (rows := rows) (os := os) (ns := ns) (by simpa using h) (by simpa using h2)
    simp only [List.cons_append, remAll, this, Bool.and_assoc]
  | [], _ :: _, _, h, _ => by simp at h
  | [], [], _ :: _, _, h => by simp at h
  | _ :: _, [], _, h, _ => by simp at h
  | _ :: _, _ :: _, [], _, h => by simp at h
theorem remM_bd (r : SWay) (n : Int) : -8000000000002 ≤ remM r n ∧ remM r n ≤ 8000000000002 := by
  have a := ofVal_bd r.clo n
  have b := ofVal_bd r.opn n
  unfold remM; omega
theorem remR_bd (r : SWay) (o n : Int) : -8000000000002 ≤ remR r o n ∧ remR r o n ≤ 8000000000002 := by
  have a := ofVal_bd r.opn o
  have b := ofVal_bd r.opn n
  unfold remR; omega
theorem sumM_bd : ∀ (rows : List SWay) (ns : List Int), -(rows.length * 8000000000002) ≤ sumM rows ns ∧ sumM rows ns ≤ rows.length * 8000000000002
  | r :: rows, n :: ns => by
    have h1 := sumM_bd rows ns
    have h2 := remM_bd r n
    simp only [sumM, List.length_cons]; omega
  | [], _ => by simp [sumM]
  | _ :: _, [] => by simp only [sumM, List.length_cons]; omega
theorem sumR_bd : ∀ (rows : List SWay) (os ns : List Int), -(rows.length * 8000000000002) ≤ sumR rows os ns ∧ sumR rows os ns ≤ rows.length * 8000000000002
  | r :: rows, o :: os, n :: ns => by
    have h1 := sumR_bd rows os ns
    have h2 := remR_bd r o n
    simp only [sumR, List.length_cons]; omega
  | [], _, _ => by simp [sumR]
  | _ :: _, [], _ => by simp only [sumR, List.length_cons]; omega
  | _ :: _, _ :: _, [] => by simp only [sumR, List.length_cons]; omega
/-- A row that may not be, anywhere, ends it. -/
theorem remAll_no {r : SWay} {o n : Int} : ∀ {rows : List SWay} {os ns : List Int} {j : Nat}, rows[j]? = some r → os[j]? = some o → ns[j]? = some n → remOk r o n = false → remAll rows os ns = false
  | x :: rows, z :: os, y :: ns, 0, h1, h2, h3, h => by
    simp at h1 h2 h3; subst h1; subst h2; subst h3
    simp [remAll, h]
  | x :: rows, z :: os, y :: ns, j + 1, h1, h2, h3, h => by
    have := remAll_no (rows := rows) (os := os) (ns := ns) (j := j) (by simpa using h1) (by simpa using h2) (by simpa using h3) h
    simp [remAll, this]
  | [], _, _, _, h1, _, _, _ => by simp at h1
  | _ :: _, [], _, _, _, h2, _, _ => by simp at h2
  | _ :: _, _ :: _, [], _, _, _, h3, _ => by simp at h3
theorem fwd_len (o c : List STri) : (fwd o c).length ≤ o.length + c.length := by
  have h1 := fold_len fC_len c (o.foldl fO [])
  have h2 := fold_len fO_len o []
  have h3 := isort_len (fwdRaw_dist o c)
  unfold fwd
  rw [h3]
  unfold fwdRaw
  rw [List.length_map]
  simp at h2; omega
/-- Deferred tax of buckets. -/
def meaOk (b : STri) (r : Int) : Bool := rightRate r && money b.c
def meaAll : List STri → List Int → Bool
  | b :: bs, r :: rs => meaOk b r && meaAll bs rs
  | _, _ => true
def meaS : List STri → List Int → Int
  | b :: bs, r :: rs => ofVal b.c r + meaS bs rs
  | _, _ => 0
def meaE (bs : List STri) (rs : List Int) : Int :=
  if rs.length ≠ bs.length then 1
  else if meaAll bs rs = false then 1
  else if money (-meaS bs rs) = false then 6 else 0
def meaN (bs : List STri) (rs : List Int) : Int := if meaE bs rs = 0 then -meaS bs rs else 0
theorem meaS_snoc {b : STri} {r : Int} : ∀ {bs : List STri} {rs : List Int}, bs.length = rs.length → meaS (bs ++ [b]) (rs ++ [r]) = meaS bs rs + ofVal b.c r
  | [], [], _ => by simp [meaS]
  | x :: bs, y :: rs, h => by
    have := meaS_snoc (b := b) (r := r) (bs := bs) (rs := rs) (by simpa using h)
    simp only [List.cons_append, meaS, this]; omega
  | [], _ :: _, h => by simp at h
  | _ :: _, [], h => by simp at h
theorem meaAll_snoc {b : STri} {r : Int} : ∀ {bs : List STri} {rs : List Int}, bs.length = rs.length → meaAll (bs ++ [b]) (rs ++ [r]) = (meaAll bs rs && meaOk b r)
  | [], [], _ => by simp [meaAll]
  | x :: bs, y :: rs, h => by
    have := meaAll_snoc (b := b) (r := r) (bs := bs) (rs := rs) (by simpa using h)
    simp only [List.cons_append, meaAll, this, Bool.and_assoc]
  | [], _ :: _, h => by simp at h
  | _ :: _, [], h => by simp at h
theorem meaS_bd : ∀ (bs : List STri) (rs : List Int), -(bs.length * 4000000000001) ≤ meaS bs rs ∧ meaS bs rs ≤ bs.length * 4000000000001
  | b :: bs, r :: rs => by
    have h1 := meaS_bd bs rs
    have h2 := ofVal_bd b.c r
    simp only [meaS, List.length_cons]; omega
  | [], _ => by simp [meaS]
  | _ :: _, [] => by simp only [meaS, List.length_cons]; omega
theorem meaAll_no {b : STri} {r : Int} : ∀ {bs : List STri} {rs : List Int} {j : Nat}, bs[j]? = some b → rs[j]? = some r → meaOk b r = false → meaAll bs rs = false
  | x :: bs, y :: rs, 0, h1, h2, h => by
    simp at h1 h2; subst h1; subst h2
    simp [meaAll, h]
  | x :: bs, y :: rs, j + 1, h1, h2, h => by
    have := meaAll_no (bs := bs) (rs := rs) (j := j) (by simpa using h1) (by simpa using h2) h
    simp [meaAll, this]
  | [], _, _, h1, _, _ => by simp at h1
  | _ :: _, [], _, _, h2, _ => by simp at h2
theorem Pt.regO {T : TypeId} {h : Hp} {b : Nat} {l : List STri} {w : World} (p : Pt kReg T h b l) (s : h.sub w) : ∃ A ca, w.cell? ⟨b, 0, none⟩ = some (.slice A l.length ca) ∧ Ow kTri (h.del b) A ca l := by
  obtain ⟨cs, hb, A, ca, rfl, ow⟩ := p
  exact ⟨A, ca, by rw [cell_of_row w b 0 _ _ _ (s b _ hb)]; rfl, ow⟩
end Go.Sl
end
section
/- Plain facts about remeasuring. -/
namespace Go.Sl
open Go Go.RowKit
theorem ofVal_zero (r : Int) : ofVal 0 r = 0 := by
  have h := ofVal_neg 0 r
  simp at h; omega
theorem remE_ok {rows : List SWay} {os ns : List Int} (h1 : os.length = rows.length) (h2 : ns.length = rows.length) (ha : remAll rows os ns = true) (hm : money (sumM rows ns) = true) (hr : money (sumR rows os ns) = true) :
    remE rows os ns = 0 ∧ remMo rows os ns = sumM rows ns ∧ remRa rows os ns = sumR rows os ns := by
  have h : remE rows os ns = 0 := by unfold remE; rw [if_neg (by omega), ha, hm, hr]; rfl
  exact ⟨h, by unfold remMo; rw [if_pos h], by unfold remRa; rw [if_pos h]⟩
theorem remE_zero {rows : List SWay} {os ns : List Int} (h : remE rows os ns = 0) : os.length = rows.length ∧ ns.length = rows.length := by
  unfold remE at h
  split at h
  · cases h
  · rename_i hn; omega
theorem remAll_of : ∀ {rows : List SWay} {os ns : List Int}, (∀ r ∈ rows, money r.opn = true ∧ money r.clo = true) → (∀ o ∈ os, rightRate o = true) → (∀ n ∈ ns, rightRate n = true) → remAll rows os ns = true
  | r :: rows, o :: os, n :: ns, h1, h2, h3 => by
    have a := h1 r (by simp)
    have b := h2 o (by simp)
    have c := h3 n (by simp)
    have ih := remAll_of (rows := rows) (os := os) (ns := ns) (fun x hx => h1 x (by simp [hx])) (fun x hx => h2 x (by simp [hx])) (fun x hx => h3 x (by simp [hx]))
    simp [remAll, remOk, a, b, c, ih]
  | [], _, _, _, _, _ => by simp [remAll]
  | _ :: _, [], _, _, _, _ => by simp [remAll]
  | _ :: _, _ :: _, [], _, _, _ => by simp [remAll]
/-- All closing amounts by rates; all opening ones. -/
def sumCl : List SWay → List Int → Int
  | r :: rows, n :: ns => ofVal r.clo n + sumCl rows ns
  | _, _ => 0
def sumOp : List SWay → List Int → Int
  | r :: rows, n :: ns => ofVal r.opn n + sumOp rows ns
  | _, _ => 0
theorem sumM_eq : ∀ (rows : List SWay) (ns : List Int), sumM rows ns = sumCl rows ns - sumOp rows ns
  | r :: rows, n :: ns => by simp only [sumM, sumCl, sumOp, sumM_eq rows ns, remM]; omega
  | [], _ => by simp [sumM, sumCl, sumOp]
  | _ :: _, [] => by simp [sumM, sumCl, sumOp]
theorem sumR_eq : ∀ (rows : List SWay) (os ns : List Int), os.length = rows.length → ns.length = rows.length → sumR rows os ns = sumOp rows ns - sumOp rows os
  | r :: rows, o :: os, n :: ns, h1, h2 => by simp only [sumR, sumOp, sumR_eq rows os ns (by simpa using h1) (by simpa using h2), remR]; omega
  | [], _, _, _, _ => by simp [sumR, sumOp]
  | _ :: _, [], _, h, _ => by simp at h
  | _ :: _, _ :: _, [], _, h => by simp at h
/-- The rates of those whose opening is not 0. -/
def oxOf : List SWay → List Int → List Int
  | r :: rows, o :: os => if r.opn = 0 then oxOf rows os else o :: oxOf rows os
  | _, _ => []
def wyOf : List SWay → List Int → List Int
  | r :: rows, o :: os => if r.clo = 0 then wyOf rows os else o :: wyOf rows os
  | _, _ => []
theorem oxOf_snoc {r : SWay} {o : Int} : ∀ {rows : List SWay} {os : List Int}, os.length = rows.length → oxOf (rows ++ [r]) (os ++ [o]) = oxOf rows os ++ (if r.opn = 0 then [] else [o])
  | [], [], _ => by simp [oxOf]
  | [], _ :: _, h => by simp at h
  | _ :: _, [], h => by simp at h
  | x :: rows, y :: os, h => by
    have := oxOf_snoc (r := r) (o := o) (rows := rows) (os := os) (by simpa using h)
    simp only [List.cons_append, oxOf, this]
    split <;> simp
theorem wyOf_snoc {r : SWay} {o : Int} : ∀ {rows : List SWay} {os : List Int}, os.length = rows.length → wyOf (rows ++ [r]) (os ++ [o]) = wyOf rows os ++ (if r.clo = 0 then [] else [o])
  | [], [], _ => by simp [wyOf]
  | [], _ :: _, h => by simp at h
  | _ :: _, [], h => by simp at h
  | x :: rows, y :: os, h => by
    have := wyOf_snoc (r := r) (o := o) (rows := rows) (os := os) (by simpa using h)
    simp only [List.cons_append, wyOf, this]
    split <;> simp
theorem meaS_opn : ∀ (rows : List SWay) (os : List Int), os.length = rows.length → meaS ((rows.filter fun r => !decide (r.opn = 0)).map opnB) (oxOf rows os) = sumOp rows os
  | [], _, _ => by simp [meaS, sumOp]
  | _ :: _, [], h => by simp at h
  | r :: rows, o :: os, h => by
    have ih := meaS_opn rows os (by simpa using h)
    by_cases h0 : r.opn = 0
    · simp [oxOf, sumOp, h0, ofVal_zero, ih]
    · simp only [List.filter_cons, h0, decide_false, Bool.not_false, if_true, List.map_cons, oxOf, if_false, meaS, sumOp, ih]; rfl
theorem meaS_clo : ∀ (rows : List SWay) (os : List Int), os.length = rows.length → meaS ((rows.filter fun r => !decide (r.clo = 0)).map cloB) (wyOf rows os) = sumCl rows os
  | [], _, _ => by simp [meaS, sumCl]
  | _ :: _, [], h => by simp at h
  | r :: rows, o :: os, h => by
    have ih := meaS_clo rows os (by simpa using h)
    by_cases h0 : r.clo = 0
    · simp [wyOf, sumCl, h0, ofVal_zero, ih]
    · simp only [List.filter_cons, h0, decide_false, Bool.not_false, if_true, List.map_cons, wyOf, if_false, meaS, sumCl, ih]; rfl
theorem meaN_zero {bs : List STri} {rs : List Int} (h : meaE bs rs = 0) : meaN bs rs = -meaS bs rs := by unfold meaN; rw [if_pos h]
theorem meaN_bd (bs : List STri) (rs : List Int) : -100000000000 ≤ meaN bs rs ∧ meaN bs rs ≤ 100000000000 := by
  unfold meaN
  split
  · rename_i h
    unfold meaE at h
    split at h
    · cases h
    · split at h
      · cases h
      · split at h
        · cases h
        · rename_i hm
          have : money (-meaS bs rs) = true := by simpa using hm
          simpa [money] using this
  · omega
theorem remMo_zero {rows : List SWay} {os ns : List Int} (h : remE rows os ns = 0) : remMo rows os ns = sumM rows ns ∧ remRa rows os ns = sumR rows os ns := ⟨by unfold remMo; rw [if_pos h], by unfold remRa; rw [if_pos h]⟩
/-- From itself to itself. -/
theorem sum_self : ∀ {rows : List SWay}, (∀ r ∈ rows, r.opn = r.clo) → ∀ ns : List Int, sumCl rows ns = sumOp rows ns
  | [], _, _ => by simp [sumCl, sumOp]
  | _ :: _, _, [] => by simp [sumCl, sumOp]
  | r :: rows, h, n :: ns => by
    have := sum_self (rows := rows) (fun x hx => h x (by simp [hx])) ns
    simp [sumCl, sumOp, this, h r (by simp)]
theorem self_rows {o : List STri} : ∀ r ∈ refFwd o o, r.opn = r.clo := fun r hr => by
  obtain ⟨_, h1, h2, _⟩ := row_of hr
  rw [h1, h2]
theorem sumOp_none : ∀ {rows : List SWay}, (∀ r ∈ rows, r.opn = 0) → ∀ ns : List Int, sumOp rows ns = 0
  | [], _, _ => by simp [sumOp]
  | _ :: _, _, [] => by simp [sumOp]
  | r :: rows, h, n :: ns => by
    have := sumOp_none (rows := rows) (fun x hx => h x (by simp [hx])) ns
    simp [sumOp, this, h r (by simp), ofVal_zero]
theorem sumCl_none : ∀ {rows : List SWay}, (∀ r ∈ rows, r.clo = 0) → ∀ ns : List Int, sumCl rows ns = 0
  | [], _, _ => by simp [sumCl]
  | _ :: _, _, [] => by simp [sumCl]
  | r :: rows, h, n :: ns => by
    have := sumCl_none (rows := rows) (fun x hx => h x (by simp [hx])) ns
    simp [sumCl, this, h r (by simp), ofVal_zero]
theorem meaS_clos : ∀ (rows : List SWay) (ns : List Int), meaS (rows.map cloB) ns = sumCl rows ns
  | r :: rows, n :: ns => by
    have := meaS_clos rows ns
    simp only [List.map_cons, meaS, sumCl, this]; rfl
  | [], _ => by simp [meaS, sumCl]
  | _ :: _, [] => by simp [meaS, sumCl]
theorem meaS_opns : ∀ (rows : List SWay) (ns : List Int), meaS (rows.map opnB) ns = sumOp rows ns
  | r :: rows, n :: ns => by
    have := meaS_opns rows ns
    simp only [List.map_cons, meaS, sumOp, this]; rfl
  | [], _ => by simp [meaS, sumOp]
  | _ :: _, [] => by simp [meaS, sumOp]
theorem getB_nil (c y : Int) : getB [] c y = 0 := rfl
/-- From nothing. -/
theorem fresh_rows {o : List STri} : (∀ r ∈ refFwd [] o, r.opn = 0) ∧ ((refFwd [] o).filter fun r => !decide (r.clo = 0)) = refFwd [] o := by
  have key : ∀ r ∈ refFwd [] o, r.opn = 0 ∧ r.clo ≠ 0 := fun r hr => by
    obtain ⟨hne, h1, _⟩ := row_of hr
    rw [getB_nil] at h1
    exact ⟨h1, by rcases hne with h | h
                  · exact absurd h1 h
                  · exact h⟩
  exact ⟨fun r hr => (key r hr).1, List.filter_eq_self.2 fun r hr => by simpa using (key r hr).2⟩
/-- To nothing. -/
theorem gone_rows {o : List STri} : (∀ r ∈ refFwd o [], r.clo = 0) ∧ ((refFwd o []).filter fun r => !decide (r.opn = 0)) = refFwd o [] := by
  have key : ∀ r ∈ refFwd o [], r.clo = 0 ∧ r.opn ≠ 0 := fun r hr => by
    obtain ⟨hne, _, h1, _⟩ := row_of hr
    rw [getB_nil] at h1
    exact ⟨h1, by rcases hne with h | h
                  · exact h
                  · exact absurd h1 h⟩
  exact ⟨fun r hr => (key r hr).1, List.filter_eq_self.2 fun r hr => by simpa using (key r hr).2⟩
theorem row_money {o c : List STri} (go : GoodR o) (gc : GoodR c) : ∀ r ∈ refFwd o c, money r.opn = true ∧ money r.clo = true := fun r hr => by
  obtain ⟨h1, h2, _⟩ := row_good go gc hr
  exact ⟨by simp [money]; omega, by simp [money]; omega⟩
/-- RemeasureParts, plain. -/
theorem parts_still {o : List STri} {os ns : List Int} : remMo (refFwd o o) os ns = 0 := by
  unfold remMo; split
  · rw [sumM_eq, sum_self self_rows]; omega
  · rfl
theorem parts_same {o : List STri} (go : GoodR o) {os : List Int} (h : os.length = o.length) (hr : ∀ x ∈ os, rightRate x = true) : remE (refFwd o o) os os = 0 ∧ remMo (refFwd o o) os os = 0 ∧ remRa (refFwd o o) os os = 0 := by
  have hl : os.length = (refFwd o o).length := by rw [len_same go]; exact h
  have h1 : sumM (refFwd o o) os = 0 := by rw [sumM_eq, sum_self self_rows]; omega
  have h2 : sumR (refFwd o o) os os = 0 := by rw [sumR_eq _ _ _ hl hl]; omega
  have := remE_ok hl hl (remAll_of (row_money go go) hr hr) (by rw [h1]; decide) (by rw [h2]; decide)
  rw [h1, h2] at this; exact this
theorem parts_fresh {o : List STri} (go : GoodR o) {os ns : List Int} (he : remE (refFwd [] o) os ns = 0) (hm : meaE o ns = 0) : remRa (refFwd [] o) os ns = 0 ∧ remMo (refFwd [] o) os ns = -meaN o ns := by
  obtain ⟨l1, l2⟩ := remE_zero he
  obtain ⟨e1, e2⟩ := remMo_zero he
  have hc := rows_clo (o := []) go
  rw [fresh_rows.2] at hc
  refine ⟨?_, ?_⟩
  · rw [e2, sumR_eq _ _ _ l1 l2, sumOp_none fresh_rows.1, sumOp_none fresh_rows.1]; rfl
  · rw [e1, sumM_eq, sumOp_none fresh_rows.1, meaN_zero hm, ← meaS_clos, hc]; omega
theorem parts_gone {o : List STri} (go : GoodR o) {os : List Int} (he : remE (refFwd o []) os os = 0) (hm : meaE o os = 0) : remRa (refFwd o []) os os = 0 ∧ remMo (refFwd o []) os os = meaN o os := by
  obtain ⟨l1, _⟩ := remE_zero he
  obtain ⟨e1, e2⟩ := remMo_zero he
  have hc := rows_opn (c := []) go
  rw [gone_rows.2] at hc
  refine ⟨?_, ?_⟩
  · rw [e2, sumR_eq _ _ _ l1 l1]; omega
  · rw [e1, sumM_eq, sumCl_none gone_rows.1, meaN_zero hm, ← meaS_opns, hc]; omega
theorem fresh_ra {o : List STri} {os ns : List Int} : remRa (refFwd [] o) os ns = 0 := by
  unfold remRa; split
  · rename_i h
    obtain ⟨l1, l2⟩ := remE_zero h
    rw [sumR_eq _ _ _ l1 l2, sumOp_none fresh_rows.1, sumOp_none fresh_rows.1]; rfl
  · rfl
theorem gone_ra {o : List STri} {os : List Int} : remRa (refFwd o []) os os = 0 := by
  unfold remRa; split
  · rename_i h
    obtain ⟨l1, _⟩ := remE_zero h
    rw [sumR_eq _ _ _ l1 l1]; omega
  · rfl
/-- RemeasureTotal, plain. -/
theorem total_plain {x y : List STri} (gx : GoodR x) (gy : GoodR y) {os ns : List Int} (he : remE (refFwd x y) os ns = 0) (hp : meaE x (oxOf (refFwd x y) os) = 0) (hq : meaE y (wyOf (refFwd x y) ns) = 0) :
    remMo (refFwd x y) os ns + remRa (refFwd x y) os ns = meaN x (oxOf (refFwd x y) os) - meaN y (wyOf (refFwd x y) ns) := by
  obtain ⟨l1, l2⟩ := remE_zero he
  obtain ⟨e1, e2⟩ := remMo_zero he
  have h1 := meaS_opn (refFwd x y) os l1
  have h2 := meaS_clo (refFwd x y) ns l2
  rw [rows_opn gx] at h1
  rw [rows_clo gy] at h2
  rw [e1, e2, sumM_eq, sumR_eq _ _ _ l1 l2, meaN_zero hp, meaN_zero hq, h1, h2]; omega
end Go.Sl
end
section
/- The program's register, its rows in any order, plain. No program is named here. -/
namespace Go.Sl
section
variable {κ α : Type} [DecidableEq κ] {o : Ord κ} {key : α → κ}
theorem isort_perm {l : List α} (h : l.Pairwise fun x y => key x ≠ key y) : (isort o key l).Perm l := by
  induction l with
  | nil => exact List.Perm.refl _
  | cons x l ih =>
    obtain ⟨a, b⟩ := List.pairwise_cons.1 h
    have hn : find key (key x) (isort o key l) = none := by
      unfold find; rw [List.find?_eq_none]; intro y hy
      have := a y ((mem_isort b).1 hy); simpa using this.symm
    have hp := put_perm (o := o) x (isort_rising (o := o) (key := key) l)
    rw [del_none hn] at hp
    exact hp.trans ((ih b).cons x)
theorem find_isort {l : List α} (h : l.Pairwise fun x y => key x ≠ key y) (k : κ) : find key k (isort o key l) = find key k l := by
  cases hf : find key k l with
  | none =>
    unfold find; rw [List.find?_eq_none]; intro y hy
    simpa using find_none hf y ((mem_isort h).1 hy)
  | some y =>
    obtain ⟨h1, rfl⟩ := find_some hf
    exact find_mem (o := o) (isort_rising l) ((mem_isort h).2 h1)
/-- The element of a key is another one. -/
theorem set_map {l : List α} (h : l.Pairwise fun x y => key x ≠ key y) {i : Nat} {x y : α} (hx : l[i]? = some x) : l.set i y = l.map fun z => if key z = key x then y else z := by
  induction l generalizing i with
  | nil => simp at hx
  | cons z l ih =>
    obtain ⟨a, b⟩ := List.pairwise_cons.1 h
    cases i with
    | zero =>
      simp at hx; subst hx
      rw [List.set_cons_zero, List.map_cons, if_pos rfl]
      congr 1
      conv => lhs; rw [← List.map_id l]
      exact List.map_congr_left fun w hw => (if_neg fun e => a w hw (Eq.symm e)).symm
    | succ i =>
      have hx' : l[i]? = some x := by simpa using hx
      rw [List.set_cons_succ, List.map_cons, if_neg (a x (List.mem_of_getElem? hx')), ih b hx']
end
theorem Ow.ne_block {α : Type} {k : Kd α} {h : Hp} {b off cap q : Nat} {xs : List α} (o : Ow k h (some ⟨b, off, .none⟩) cap xs) (h0 : 0 < xs.length) (hq : h q = Option.none) : b ≠ q := fun e => by
  obtain ⟨b', off', cur, E, e', hb, _, _⟩ := o.row _ rfl (by have := o.le; omega)
  cases e'
  rw [e, hq] at hb; cases hb
theorem find_miss' {κ α : Type} [DecidableEq κ] {key : α → κ} {k : κ} {l : List α} (h : ∀ y ∈ l, key y ≠ k) : find key k l = none := by
  unfold find; rw [List.find?_eq_none]; intro y hy; simpa using h y hy
def isB (c y : Int) (x : STri) : Bool := decide (x.a = c ∧ x.b = y)
def zeroB (x : STri) : Bool := decide (x.c = 0)
theorem isB_key {c y : Int} {x : STri} : isB c y x = true ↔ rkey x = (c, y) := by simp [isB, rkey]
abbrev DistR (l : List STri) : Prop := l.Pairwise fun x y => rkey x ≠ rkey y
/-- What set lays, before what is 0 goes. -/
def rawPut (l : List STri) (c y n : Int) : List STri :=
  if l.any (isB c y) then l.map fun z => if rkey z = (c, y) then ⟨c, y, n⟩ else z else if n = 0 then l else l ++ [⟨c, y, n⟩]
def rawSet (l : List STri) (c y n : Int) : List STri := (rawPut l c y n).filter fun z => !zeroB z
/-- The rows r, sorted, are the register l. -/
structure RawR (r l : List STri) : Prop where
  dist : DistR r
  eq : isort ordPair rkey r = l
  good : GoodR l
theorem RawR.nil : RawR [] [] := ⟨List.Pairwise.nil, rfl, .nil⟩
section
variable {r l : List STri}
theorem RawR.perm (R : RawR r l) : r.Perm l := by have := (isort_perm (o := ordPair) R.dist).symm; rwa [R.eq] at this
theorem RawR.len (R : RawR r l) : r.length = l.length := R.perm.length_eq
theorem RawR.mem (R : RawR r l) {x : STri} : x ∈ r ↔ x ∈ l := R.perm.mem_iff
theorem RawR.get (R : RawR r l) (c y : Int) : getB r c y = getB l c y := by
  unfold getB; rw [← R.eq, find_isort R.dist]
theorem RawR.sum (R : RawR r l) : sumC r = sumC l := sum_perm (R.perm.map _)
theorem rawPut_dist (h : DistR r) (c y n : Int) : DistR (rawPut r c y n) := by
  unfold rawPut
  split
  · refine List.pairwise_map.2 (h.imp fun {a b} e => ?_)
    by_cases ha : rkey a = (c, y) <;> by_cases hb : rkey b = (c, y)
    · exact absurd (ha.trans hb.symm) e
    · rw [if_pos ha, if_neg hb]; exact fun e => hb e.symm
    · rw [if_neg ha, if_pos hb]; exact ha
    · rw [if_neg ha, if_neg hb]; exact e
  · rename_i hn
    split
    · exact h
    · refine List.pairwise_append.2 ⟨h, by simp, fun a ha b hb => ?_⟩
      simp at hb; subst hb
      intro e
      exact hn (List.any_eq_true.2 ⟨a, ha, isB_key.2 e⟩)
theorem rawSet_dist (h : DistR r) (c y n : Int) : DistR (rawSet r c y n) := (rawPut_dist h c y n).filter _
theorem mem_rawSet (nz : ∀ b ∈ r, b.c ≠ 0) {c y n : Int} {x : STri} : x ∈ rawSet r c y n ↔ (n ≠ 0 ∧ x = ⟨c, y, n⟩) ∨ x ∈ r ∧ rkey x ≠ (c, y) := by
  have H : ∀ x, x ∈ rawPut r c y n → x.c ≠ 0 → (n ≠ 0 ∧ x = ⟨c, y, n⟩) ∨ x ∈ r ∧ rkey x ≠ (c, y) := by
    intro x hx hc
    unfold rawPut at hx
    split at hx
    · obtain ⟨z, hz, e⟩ := List.mem_map.1 hx
      split at e
      · subst e; exact .inl ⟨hc, rfl⟩
      · rename_i hk; subst e; exact .inr ⟨hz, hk⟩
    · rename_i hn
      have hk : ∀ z ∈ r, rkey z ≠ (c, y) := fun z hz e => hn (List.any_eq_true.2 ⟨z, hz, isB_key.2 e⟩)
      split at hx
      · exact .inr ⟨hx, hk x hx⟩
      · rcases List.mem_append.1 hx with hx | hx
        · exact .inr ⟨hx, hk x hx⟩
        · simp at hx; subst hx; exact .inl ⟨hc, rfl⟩
  constructor
  · intro hx
    obtain ⟨h1, h2⟩ := List.mem_filter.1 hx
    exact H x h1 (by simpa [zeroB] using h2)
  · intro hx
    refine List.mem_filter.2 ?_
    rcases hx with ⟨h0, rfl⟩ | ⟨h, hk⟩
    · refine ⟨?_, by simpa [zeroB] using h0⟩
      unfold rawPut
      split
      · rename_i ha
        obtain ⟨z, hz, e⟩ := List.any_eq_true.1 ha
        exact List.mem_map.2 ⟨z, hz, if_pos (isB_key.1 e)⟩
      · first | simp | (rw [if_neg h0]; simp)
    · refine ⟨?_, by simpa [zeroB] using nz x h⟩
      unfold rawPut
      split
      · exact List.mem_map.2 ⟨x, h, if_neg hk⟩
      · split
        · exact h
        · simp [h]
theorem rawSet_nz (c y n : Int) : ∀ b ∈ rawSet r c y n, b.c ≠ 0 := fun b hb => by simpa [zeroB] using (List.mem_filter.1 hb).2
/-- Sorted, what set leaves is what the register's set leaves. -/
theorem rawSet_eq (h : DistR r) (nz : ∀ b ∈ r, b.c ≠ 0) (c y n : Int) : isort ordPair rkey (rawSet r c y n) = setB (isort ordPair rkey r) c y n := by
  refine Rising.ext ordPair rkey (isort_rising _) (rising_setB (isort_rising _) c y n) fun x => ?_
  rw [mem_isort (rawSet_dist h c y n), mem_rawSet nz, mem_setB, mem_isort h]
theorem RawR.nz (R : RawR r l) : ∀ b ∈ r, b.c ≠ 0 := fun b hb => R.good.nz b (R.mem.1 hb)
theorem rawPut_len (c y n : Int) : (rawPut r c y n).length ≤ r.length + 1 := by
  unfold rawPut; split
  · simp
  · split <;> simp
theorem rawSet_len (c y n : Int) : (rawSet r c y n).length ≤ r.length + 1 := Nat.le_trans (List.length_filter_le _ _) (rawPut_len c y n)
theorem rawSet_len_eq (h : DistR r) (nz : ∀ b ∈ r, b.c ≠ 0) (c y n : Int) : (rawSet r c y n).length = (setB (isort ordPair rkey r) c y n).length := by
  rw [← rawSet_eq h nz]; exact ((isort_perm (rawSet_dist h c y n)).length_eq).symm
/-- Where the bucket is, and what it has. -/
theorem getB_idx (l : List STri) (c y : Int) : (idx (isB c y) l = -1 ∧ getB l c y = 0 ∧ l.any (isB c y) = false) ∨ ∃ (i : Nat) (x : STri), l[i]? = some x ∧ idx (isB c y) l = i ∧ getB l c y = x.c ∧ l.any (isB c y) = true ∧ rkey x = (c, y) := by
  by_cases h : l.any (isB c y) = true
  · right
    have hlt : l.findIdx (isB c y) < l.length := List.findIdx_lt_length.2 (List.any_eq_true.1 h)
    have hp := List.findIdx_getElem (w := hlt)
    refine ⟨l.findIdx (isB c y), l[l.findIdx (isB c y)], by simp [hlt], by unfold idx; rw [if_pos h], ?_, h, isB_key.1 hp⟩
    unfold getB find
    have : l.find? (fun z => decide (rkey z = (c, y))) = some l[l.findIdx (isB c y)] := by
      rw [List.find?_eq_some_iff_getElem]
      refine ⟨by simpa using isB_key.1 hp, l.findIdx (isB c y), hlt, rfl, fun j hj => ?_⟩
      have := List.not_of_lt_findIdx hj
      have hf : isB c y l[j] = false := by simpa using this
      have e : ¬ rkey l[j] = (c, y) := fun e => by rw [isB_key.2 e] at hf; cases hf
      simp [e]
    rw [this]
  · left
    have hn : ∀ z ∈ l, isB c y z = false := fun z hz => by
      cases e : isB c y z with
      | false => rfl
      | true => exact absurd (List.any_eq_true.2 ⟨z, hz, e⟩) h
    refine ⟨idx_miss hn, ?_, by simpa using h⟩
    unfold getB find
    have : l.find? (fun z => decide (rkey z = (c, y))) = none := by
      rw [List.find?_eq_none]; intro z hz; have := hn z hz; intro e; rw [isB_key.2 (by simpa using e)] at this; cases this
    rw [this]
end
end Go.Sl
end
section
/- Losses by vintage, plain. No program is named here. -/
namespace Go.Sl
open Go Go.RowKit
/-- A vintage: a its origin, b its expiry, c what is left; by expiry, then origin. -/
def vkey (x : STri) : Int × Int := (x.b, x.a)
abbrev RisingV (l : List STri) : Prop := Rising ordPair vkey l
def isV (o e : Int) (x : STri) : Bool := decide (x.a = o ∧ x.b = e)
def vOk (o e : Int) : Bool := decide (0 ≤ o ∧ o ≤ 99 ∧ o ≤ e ∧ e ≤ 198)
def getV (l : List STri) (o e : Int) : Int := match find vkey (e, o) l with | some x => x.c | none => 0
def putV (l : List STri) (o e n : Int) : List STri := put ordPair vkey ⟨o, e, n⟩ l
def vAddE (l : List STri) (o e n : Int) : Int :=
  if (vOk o e && (decide (1 ≤ n) && money n)) = false then 1
  else if money (sumC l + n) = false then 6
  else if l.any (isV o e) = true then 0
  else if 12 ≤ l.length then 5 else 0
def vAdd (l : List STri) (o e n : Int) : List STri := if vAddE l o e n = 0 then putV l o e (getV l o e + n) else l
def overV (y : Int) (x : STri) : Bool := decide (x.b < y)
def vExp (l : List STri) (y : Int) : List STri := l.filter fun x => !overV y x
def vGone (l : List STri) (y : Int) : Int := sumC (l.filter (overV y))
def badU (x : STri) (u : Int) : Bool := decide (u < 0) || decide (x.c < u)
def lessV (x : STri) (u : Int) : STri := ⟨x.a, x.b, x.c - u⟩
def vTakeE (l : List STri) (us : List Int) : Int := if us.length = l.length ∧ (List.zipWith badU l us).any id = false then 0 else 1
def vTake (l : List STri) (us : List Int) : List STri := if vTakeE l us = 0 then (List.zipWith lessV l us).filter fun z => !zeroB z else l
/-- What holds of all losses. -/
structure GoodV (l : List STri) : Prop where
  rise : RisingV l
  lo : ∀ x ∈ l, 1 ≤ x.c
  rng : ∀ x ∈ l, vOk x.a x.b = true
  mon : sumC l ≤ 100000000000
  len : l.length ≤ 12
theorem GoodV.nil : GoodV [] := ⟨List.Pairwise.nil, by simp, by simp, by simp [sumC], by simp⟩
theorem isV_key {o e : Int} {x : STri} : isV o e x = true ↔ vkey x = (e, o) := by simp [isV, vkey, and_comm]
section
variable {l : List STri}
theorem RisingV.dist (h : RisingV l) : l.Pairwise fun x y => vkey x ≠ vkey y := h.imp fun e => ordPair.ne e
theorem sumC_pos (h : ∀ x ∈ l, 1 ≤ x.c) : (l.length : Int) ≤ sumC l := by
  induction l with
  | nil => simp [sumC]
  | cons y l ih =>
    have h1 := h y (by simp)
    have h2 := ih fun x hx => h x (by simp [hx])
    have e : sumC (y :: l) = y.c + sumC l := by simp [sumC]
    rw [e]; simp only [List.length_cons, Int.natCast_add, Int.natCast_one]; omega
theorem le_sumC (h : ∀ x ∈ l, 1 ≤ x.c) {x : STri} (hx : x ∈ l) : x.c ≤ sumC l := by
  induction l with
  | nil => cases hx
  | cons y l ih =>
    have h1 := h y (by simp)
    have h0 := sumC_pos (l := l) fun x hx => h x (List.mem_cons_of_mem _ hx)
    have e : sumC (y :: l) = y.c + sumC l := by simp [sumC]
    rcases List.mem_cons.1 hx with rfl | hx
    · omega
    · have := ih (fun x hx => h x (by simp [hx])) hx; omega
theorem sumC_take_le (h : ∀ x ∈ l, 1 ≤ x.c) (j : Nat) : 0 ≤ sumC (l.take j) ∧ sumC (l.take j) ≤ sumC l := by
  have e : sumC l = sumC (l.take j) + sumC (l.drop j) := by
    conv => lhs; rw [← List.take_append_drop j l]
    unfold sumC; rw [List.map_append, List.sum_append]
  have h1 := sumC_pos (l := l.take j) fun x hx => h x (List.mem_of_mem_take hx)
  have h2 := sumC_pos (l := l.drop j) fun x hx => h x (List.mem_of_mem_drop hx)
  omega
theorem sumC_put (hr : RisingV l) (o e n : Int) : sumC (putV l o e n) = sumC l - getV l o e + n := by
  have e1 := sum_del (o := ordPair) (key := vkey) (fun b : STri => b.c) (e, o) hr
  have e2 : (l.map (·.c)).sum = ((del vkey (e, o) l).map (·.c)).sum + getV l o e := by
    rw [e1]; unfold getV; cases find vkey (e, o) l <;> rfl
  unfold putV sumC
  rw [sum_put (fun b : STri => b.c) _ hr]
  show ((del vkey (e, o) l).map (·.c)).sum + n = _
  omega
theorem getV_any {o e : Int} (h : l.any (isV o e) = false) : getV l o e = 0 := by
  unfold getV
  rw [find_miss' fun y hy => fun e' => by
    rw [List.any_eq_false] at h; exact h y hy (isV_key.2 e')]
theorem len_putV (hr : RisingV l) (o e n : Int) : (putV l o e n).length = l.length + (if l.any (isV o e) then 0 else 1) := by
  unfold putV
  rw [len_put _ hr]
  have := len_del (o := ordPair) (key := vkey) (e, o) hr
  show (del vkey (e, o) l).length + 1 = _
  cases hf : find vkey (e, o) l with
  | none =>
    rw [hf] at this
    have h : l.any (isV o e) = false := by
      rw [List.any_eq_false]; intro y hy h2; exact find_none hf y hy (isV_key.1 h2)
    rw [h]; simp at this ⊢; omega
  | some y =>
    rw [hf] at this
    obtain ⟨h1, h2⟩ := find_some hf
    have h : l.any (isV o e) = true := List.any_eq_true.2 ⟨y, h1, isV_key.2 h2⟩
    rw [h]; simp at this ⊢; omega
theorem getV_bd (g : GoodV l) (o e : Int) : 0 ≤ getV l o e ∧ getV l o e ≤ sumC l := by
  unfold getV
  split
  · rename_i x hx
    have hm := (find_some hx).1
    have := g.lo x hm
    have := le_sumC g.lo hm
    omega
  · have := sumC_pos g.lo; omega
theorem vAddE_ok {o e n : Int} (h : vAddE l o e n = 0) : vOk o e = true ∧ 1 ≤ n ∧ money n = true ∧ money (sumC l + n) = true ∧ (l.any (isV o e) = true ∨ l.length < 12) := by
  unfold vAddE at h
  split at h
  · cases h
  · split at h
    · cases h
    · rename_i h1 h2
      simp at h1 h2
      split at h
      · rename_i h3; exact ⟨h1.1, h1.2.1, h1.2.2, h2, .inl h3⟩
      · split at h
        · cases h
        · exact ⟨h1.1, h1.2.1, h1.2.2, h2, .inr (by omega)⟩
theorem GoodV.add (g : GoodV l) (o e n : Int) : GoodV (vAdd l o e n) := by
  unfold vAdd
  split
  · rename_i h
    obtain ⟨h1, h2, h3, h4, h5⟩ := vAddE_ok h
    have hb := getV_bd g o e
    have h4' : -100000000000 ≤ sumC l + n ∧ sumC l + n ≤ 100000000000 := by simpa [money] using h4
    refine ⟨g.rise.put _ _ _, fun x hx => ?_, fun x hx => ?_, ?_, ?_⟩
    · rcases (mem_put ordPair vkey).1 hx with rfl | ⟨hx, _⟩
      · show 1 ≤ getV l o e + n; omega
      · exact g.lo x hx
    · rcases (mem_put ordPair vkey).1 hx with rfl | ⟨hx, _⟩
      · exact h1
      · exact g.rng x hx
    · rw [sumC_put g.rise]; omega
    · rw [len_putV g.rise]
      have := g.len
      rcases h5 with h5 | h5
      · rw [if_pos h5]; omega
      · split <;> omega
  · exact g
theorem sumC_filter (p : STri → Bool) : sumC (l.filter p) + sumC (l.filter fun x => !p x) = sumC l := by
  induction l with
  | nil => simp [sumC]
  | cons y l ih =>
    have e : ∀ m, sumC (y :: m) = y.c + sumC m := fun m => by simp [sumC]
    cases hp : p y <;> simp [hp, e] <;> omega
theorem GoodV.exp (g : GoodV l) (y : Int) : GoodV (vExp l y) :=
  ⟨g.rise.filter _ _ _, fun x hx => g.lo x (List.mem_filter.1 hx).1, fun x hx => g.rng x (List.mem_filter.1 hx).1, by
    have h1 := sumC_filter (l := l) (overV y)
    have h2 := sumC_pos (l := l.filter (overV y)) fun x hx => g.lo x (List.mem_filter.1 hx).1
    have h3 := g.mon
    unfold vExp; omega, Nat.le_trans (List.length_filter_le _ _) g.len⟩
/-- An element of a key is another one of it. -/
theorem set_putV (hr : RisingV l) {i : Nat} {x : STri} (hx : l[i]? = some x) (n : Int) : l.set i ⟨x.a, x.b, n⟩ = putV l x.a x.b n := by
  have hd := RisingV.dist hr
  refine Rising.ext ordPair vkey ?_ (hr.put _ _ _) fun z => ?_
  · rw [set_map (key := vkey) hd hx]
    refine List.pairwise_map.2 (hr.imp fun {a b} h => ?_)
    have h1 : ∀ a : STri, vkey (if vkey a = vkey x then (⟨x.a, x.b, n⟩ : STri) else a) = vkey a := fun a => by
      split
      · rename_i h; rw [h]; rfl
      · rfl
    rw [h1, h1]; exact h
  · unfold putV
    rw [mem_put, set_map (key := vkey) hd hx, List.mem_map]
    constructor
    · rintro ⟨a, ha, h⟩
      split at h
      · exact .inl h.symm
      · rename_i hk; subst h; exact .inr ⟨ha, hk⟩
    · rintro (rfl | ⟨h, hk⟩)
      · exact ⟨x, List.mem_of_getElem? hx, if_pos rfl⟩
      · exact ⟨z, h, if_neg hk⟩
theorem isort_putV (hr : RisingV l) {o e n : Int} (h : l.any (isV o e) = false) : (l ++ [(⟨o, e, n⟩ : STri)]).Pairwise (fun x y => vkey x ≠ vkey y) ∧ isort ordPair vkey (l ++ [⟨o, e, n⟩]) = putV l o e n := by
  have hk : ∀ z ∈ l, vkey z ≠ (e, o) := fun z hz e' => by rw [List.any_eq_false] at h; exact h z hz (isV_key.2 e')
  have hd : (l ++ [(⟨o, e, n⟩ : STri)]).Pairwise fun x y => vkey x ≠ vkey y := List.pairwise_append.2 ⟨RisingV.dist hr, by simp, fun a ha b hb => by simp at hb; subst hb; exact hk a ha⟩
  refine ⟨hd, Rising.ext ordPair vkey (isort_rising _) (hr.put _ _ _) fun z => ?_⟩
  unfold putV
  rw [mem_isort hd, mem_put]
  simp only [List.mem_append, List.mem_singleton]
  constructor
  · rintro (h | h)
    · exact .inr ⟨h, hk z h⟩
    · exact .inl h
  · rintro (h | ⟨h, _⟩)
    · exact .inr h
    · exact .inl h
theorem getV_idx (hr : RisingV l) (o e : Int) : (idx (isV o e) l = -1 ∧ l.any (isV o e) = false ∧ getV l o e = 0) ∨ ∃ (i : Nat) (x : STri), l[i]? = some x ∧ idx (isV o e) l = i ∧ getV l o e = x.c ∧ l.any (isV o e) = true ∧ x.a = o ∧ x.b = e := by
  by_cases h : l.any (isV o e) = true
  · right
    have hlt : l.findIdx (isV o e) < l.length := List.findIdx_lt_length.2 (List.any_eq_true.1 h)
    have hp := List.findIdx_getElem (w := hlt)
    have hk := isV_key.1 hp
    refine ⟨l.findIdx (isV o e), l[l.findIdx (isV o e)], by simp [hlt], by unfold idx; rw [if_pos h], ?_, h, ?_⟩
    · have := find_mem (o := ordPair) (key := vkey) hr (List.getElem_mem hlt)
      unfold getV; rw [← hk, this]
    · simpa [isV] using hp
  · left
    have h' : l.any (isV o e) = false := by simpa using h
    refine ⟨idx_miss fun z hz => ?_, h', getV_any h'⟩
    rw [List.any_eq_false] at h'
    simpa using h' z hz
theorem rising_over {y : Int} {x : STri} (h : (x :: l).Pairwise fun a b => ordPair.lt (vkey a) (vkey b) = true) (hx : ¬ x.b < y) : (x :: l).filter (overV y) = [] ∧ (x :: l).filter (fun z => !overV y z) = x :: l := by
  have hall : ∀ z ∈ x :: l, overV y z = false := fun z hz => by
    rcases List.mem_cons.1 hz with rfl | hz
    · simpa [overV] using hx
    · have := (List.pairwise_cons.1 h).1 z hz
      simp [ordPair, vkey] at this
      simp [overV]; omega
  exact ⟨List.filter_eq_nil_iff.2 fun z hz => by simp [hall z hz], List.filter_eq_self.2 fun z hz => by simp [hall z hz]⟩
theorem takeE_zip {us : List Int} (hl : us.length = l.length) : vTakeE l us = (if (List.zipWith badU l us).any id = true then 1 else 0) := by
  unfold vTakeE
  cases h : (List.zipWith badU l us).any id <;> simp [hl]
theorem sumC_less : ∀ (l : List STri) (us : List Int), us.length = l.length → sumC (List.zipWith lessV l us) = sumC l - us.sum
  | [], [], _ => by simp [sumC]
  | x :: l, u :: us, h => by
    have ih := sumC_less l us (by simpa using h)
    simp [sumC, lessV] at ih ⊢
    omega
  | [], _ :: _, h => by simp at h
  | _ :: _, [], h => by simp at h
theorem sumC_nz (l : List STri) : sumC (l.filter fun z => !zeroB z) = sumC l := by
  induction l with
  | nil => rfl
  | cons y l ih =>
    have e : ∀ m, sumC (y :: m) = y.c + sumC m := fun m => by simp [sumC]
    cases hz : zeroB y with
    | true =>
      have : y.c = 0 := by simpa [zeroB] using hz
      simp [hz, e, ih, this]
    | false => simp [hz, e, ih]
theorem zip_get : ∀ {l : List STri} {us : List Int} {j : Nat} {z : STri}, (List.zipWith lessV l us)[j]? = some z → ∃ x u, l[j]? = some x ∧ us[j]? = some u ∧ z = lessV x u := by
  intro l us j z h
  rw [List.getElem?_zipWith] at h
  cases hx : l[j]? with
  | none => simp [hx] at h
  | some x =>
    cases hu : us[j]? with
    | none => simp [hx, hu] at h
    | some u => simp [hx, hu] at h; exact ⟨x, u, rfl, rfl, h.symm⟩
theorem vTake_bad {us : List Int} (h : vTakeE l us = 0) {j : Nat} {x : STri} {u : Int} (hx : l[j]? = some x) (hu : us[j]? = some u) : 0 ≤ u ∧ u ≤ x.c := by
  unfold vTakeE at h
  split at h
  · rename_i h2
    have h3 := h2.2
    rw [List.any_eq_false] at h3
    have h4 := h3 (badU x u) (List.mem_of_getElem? (i := j) (by rw [List.getElem?_zipWith, hx, hu]))
    simp [badU] at h4
    omega
  · cases h
theorem GoodV.take (g : GoodV l) (us : List Int) : GoodV (vTake l us) := by
  unfold vTake
  split
  · rename_i h
    have hl : us.length = l.length := by unfold vTakeE at h; split at h <;> simp_all
    have hmem : ∀ z ∈ List.zipWith lessV l us, ∃ (j : Nat) (x : STri) (u : Int), l[j]? = some x ∧ us[j]? = some u ∧ z = lessV x u := fun z hz => by
      obtain ⟨j, hj⟩ := List.mem_iff_getElem?.1 hz
      obtain ⟨x, u, h1, h2, h3⟩ := zip_get hj
      exact ⟨j, x, u, h1, h2, h3⟩
    have hsum := sumC_less l us hl
    have hus : 0 ≤ us.sum := by
      have : ∀ u ∈ us, 0 ≤ u := fun u hu => by
        obtain ⟨j, hj⟩ := List.mem_iff_getElem?.1 hu
        have hjl : j < l.length := by rw [← hl]; exact (List.getElem?_eq_some_iff.1 hj).1
        exact (vTake_bad h (get_of_lt hjl) hj).1
      clear hsum hmem h hl
      induction us with
      | nil => simp
      | cons u us ih => have h1 := this u (by simp); have h2 := ih fun v hv => this v (by simp [hv]); simp; omega
    refine ⟨(Rising.filter ordPair vkey ?_ _), fun z hz => ?_, fun z hz => ?_, by rw [sumC_nz, hsum]; have := g.mon; omega, ?_⟩
    · refine List.pairwise_iff_getElem.2 fun i j hi hj hij => ?_
      simp only [List.getElem_zipWith]
      simp at hi hj
      exact List.pairwise_iff_getElem.1 g.rise i j (by omega) (by omega) hij
    · obtain ⟨h1, h2⟩ := List.mem_filter.1 hz
      obtain ⟨j, x, u, e1, e2, rfl⟩ := hmem z h1
      have := vTake_bad h e1 e2
      have h3 : ¬ (lessV x u).c = 0 := by simpa [zeroB] using h2
      have h4 : (lessV x u).c = x.c - u := rfl
      omega
    · obtain ⟨h1, h2⟩ := List.mem_filter.1 hz
      obtain ⟨j, x, u, e1, e2, rfl⟩ := hmem z h1
      exact g.rng x (List.mem_of_getElem? e1)
    · have := List.length_filter_le (fun z => !zeroB z) (List.zipWith lessV l us)
      rw [List.length_zipWith] at this
      have h2 := g.len
      omega
  · exact g
end
end Go.Sl
end
section
/- The walk of rate.Right. -/
namespace Go.Proofs.YtnfedcaehkcffaaGreat
open Go.RowKit Go.Sl
set_option maxHeartbeats 2000000
theorem rateRight_calls (r : Int) (w : World) : Calls Tryz.prog 48 #[.int .i64 r] w fun e w' => e = .returned (.bool (rightRate r)) ∧ w = w' := by
  go_enter Tryz.func48, Tryz.ntmps48
  go_wp2
  all_goals
    go_ret
    exact ⟨by simp [rightRate]; omega, rfl⟩
end Go.Proofs.YtnfedcaehkcffaaGreat
end
section
/- append onto a slice in a body's own memory. No program is named here. -/
namespace Go.Sl
open Go Go.RowKit
section
variable {P : Program} {α : Type} {k : Kd α} {h hx : Hp} {A B : Option Addr} {cap : Nat} {xs ys : List α} {w0 w : World} {l : List Hp}
theorem Env.at_mem (E : Env w0 w l) {h : Hp} (m : h ∈ l) : h.sub w := E.own.mem h m
/-- One flat element. -/
theorem wpList_eapp {ops : Array Oper} {rest : List Oper} {op : Oper} {a : Act} {Q : Exit → Act → World → Prop} {sx xx : Operand} {t e : TypeId} {z : Value} {bytes : Nat} {cs : List Value} {T : TypeId} {fr : Nat × Nat} {b : Nat}
    (i : Nat) (y : α) (ht : P.underlying t = some (.slice e)) (hinfo : Info P e z k.size bytes) (E : Env w0 w l) (hi : l[i]? = some h) (o : Ow k h A cap xs) (n : Nat) (hn : xs.length = n)
    (hzs : z.cells.size = k.size) (hgd : Region.wanted op (yielded ops a.tmps) = true)
    (ho : op.op = .call { callee := .builtin .append, args := #[sx, xx], argTypes := #[t, t] }) (c : Nat) (hsv : a.eval sx = .slice A n cap) (hxv : a.eval xx = .slice (some ⟨b, 0, none⟩) 1 c)
    (hb : w.heap[b]? = some (.cells cs.toArray T fr)) (hK : k.K Hp.none y cs)
    (hm : n + 1 ≤ 1000000000) (hby : bytes ≤ 1000)
    (H : ∀ A' cap' w' h', Ow k h' A' cap' (xs ++ [y]) → Env w0 w' (l.set i h') → wpList P ops Q rest (a.put op.dst (.slice A' (n + 1) cap')) w') : wpList P ops Q (op :: rest) a w :=
  wpList_app1f ht hinfo hzs hgd ho n c hsv hxv hn o (E.sub i hi) hb hK hm hby fun A' cap' w' h' h1 h2 => H A' cap' w' h' h1 (E.upd i hi h2)
/-- A whole slice of flat elements. -/
theorem wpList_eappF {ops : Array Oper} {rest : List Oper} {op : Oper} {a : Act} {Q : Exit → Act → World → Prop} {sx xx : Operand} {t e : TypeId} {z : Value} {bytes cb : Nat}
    (i : Nat) (ht : P.underlying t = some (.slice e)) (hinfo : Info P e z k.size bytes) (E : Env w0 w l) (hi : l[i]? = some h) (o : Ow k h A cap xs) (sy : Sl k hx B cb ys) (sx' : hx.sub w) (n m : Nat) (hn : xs.length = n) (hm' : ys.length = m)
    (f : k.Flat) (hzs : z.cells.size = k.size) (hgd : Region.wanted op (yielded ops a.tmps) = true)
    (ho : op.op = .call { callee := .builtin .append, args := #[sx, xx], argTypes := #[t, t] }) (c : Nat) (hsv : a.eval sx = .slice A n cap) (hxv : a.eval xx = .slice B m c)
    (hm : n + m ≤ 1000000000) (hby : bytes ≤ 1000)
    (H : ∀ A' cap' w' h', Ow k h' A' cap' (xs ++ ys) → Env w0 w' (l.set i h') → wpList P ops Q rest (a.put op.dst (.slice A' (n + m) cap')) w') : wpList P ops Q (op :: rest) a w :=
  wpList_appF ht hinfo hzs hgd ho n m c hsv hxv hn hm' f o (E.sub i hi) sy sx' hm hby fun A' cap' w' h' h1 h2 => H A' cap' w' h' h1 (E.upd i hi h2)
end
end Go.Sl
end
section
/- The walk of play.Rate. -/
namespace Go.Sl
open Go Go.RowKit
def rateTab : List Int := [250000, 300000, 190000, 0, 1000000, 333333, 500000, 1, 125000, 999999]
def rateOf (n : Int) : Int := if n.tmod 29 = 28 then n else rateTab.getD (within n 10).toNat 0
def rateCells : Array Value := #[.int .i64 250000, .int .i64 300000, .int .i64 190000, .int .i64 0, .int .i64 1000000, .int .i64 333333, .int .i64 500000, .int .i64 1, .int .i64 125000, .int .i64 999999]
theorem rateCells_get : ∀ k : Nat, k < 10 → rateCells[k]? = some (.int .i64 (rateTab.getD k 0))
  | 0, _ => rfl | 1, _ => rfl | 2, _ => rfl | 3, _ => rfl | 4, _ => rfl | 5, _ => rfl | 6, _ => rfl | 7, _ => rfl | 8, _ => rfl | 9, _ => rfl
  | k + 10, h => by omega
end Go.Sl
namespace Go.Proofs.YtnfedcaehkcffaaGreat
open Go.RowKit Go.Sl
set_option maxHeartbeats 1000000
set_option maxRecDepth 100000
theorem info_int : Info Tryz.prog 3 (.int .i64 0) 1 8 := by unfold Info; kernel_rfl
theorem playRate_calls (n : Int) (w : World) : Calls Tryz.prog 75 #[.int .i64 n] w fun e w' => e = .returned (.int .i64 (rateOf n)) ∧ Below w.heap.size w w' := by
  by_cases h : n.tmod 29 = 28
  · have HR : Hid (rateOf n = n) := by unfold Hid rateOf; rw [if_pos h]
    have t1 : (n.tmod 29 == 28) = true := by simpa using h
    clear h
    go_enter Tryz.func75, Tryz.ntmps75
    go_wp2
    go_ret
    exact ⟨by rw [HR.out]; rfl, Below.refl _ _⟩
  · have h1 := within_lo n (n := 10) (by omega)
    have h2 := within_hi n (n := 10) (by omega)
    obtain ⟨k, hk⟩ : ∃ k : Nat, within n 10 = (k : Int) := ⟨(within n 10).toNat, by omega⟩
    have HR : Hid (rateOf n = rateTab.getD k 0) := by unfold Hid rateOf; rw [if_neg h, hk]; rfl
    have hk10 : k < 10 := by omega
    have t1 : (n.tmod 29 == 28) = false := by simpa using h
    have WC := fun W => within_calls n 10 W (by omega) (by omega)
    rw [hk] at WC
    have hc : (w.alloc (.cells rateCells 3)).cell? ⟨w.heap.size, k, none⟩ = some (.int .i64 (rateTab.getD k 0)) := by rw [cell_new rfl]; exact rateCells_get k hk10
    unfold rateCells at hc
    generalize rateTab.getD k 0 = v at *
    have i1 : (0 : Int) ≤ (k : Int) := by omega
    have i2 : (k : Int) < 10 := by omega
    clear h h1 h2 hk
    go_enter Tryz.func75, Tryz.ntmps75
    go_wp2_with fail
    refine (WC _).mono ?_
    rintro e w' ⟨rfl, rfl⟩
    go_wp2
    go_ret
    exact ⟨by rw [HR.out]; rfl, (by repeat (first | exact Below.refl _ _ | apply Below.drew | refine Below.alloc ?_ (by simp) _))⟩
end Go.Proofs.YtnfedcaehkcffaaGreat
end
section
/- Small structs of a body's own, each in a block of its own. No program is named here. -/
namespace Go.Sl
open Go Go.RowKit
section
variable {h : Hp} {w0 w : World} {l : List Hp} {b : Nat} {cs : List Value} {T : TypeId}
abbrev Hp.box (b : Nat) (cs : List Value) (T : TypeId) : Hp := Hp.one b (.cells cs.toArray T (0, 0))
theorem Hp.none_put (b : Nat) (o : Obj) : Hp.none.put b o = Hp.one b o := by funext q; simp [Hp.put, Hp.one, Hp.none]
theorem Upd.oneSet (s : (Hp.box b cs T).sub w) (j : Nat) (v : Value) : Upd (Hp.box b cs T) (Hp.box b (cs.set j v) T) w (w.setCell ⟨b, j, .none⟩ v) := by
  have h := (Upd.field (h := Hp.box b cs T) (hr := Hp.none) (r' := Hp.none) (w1 := w) (v := v) j (Hp.one_self b _) s (Hp.none_le _) (Upd.of_below (Below.refl _ _))).1
  rw [Hp.none_put] at h; exact h
theorem Env.weak {k : Hp} (E : Env w0 w l) (i : Nat) (hi : l[i]? = some h) (hk : k.le h) : Env w0 w (l.set i k) := E.upd i hi ⟨rfl, rfl, rfl, Nat.le_refl _, fun _ _ _ => rfl, (E.sub i hi).le hk, fun q hq => .inl fun hn => by
  cases hh : k q with
  | none => exact hq hh
  | some o => rw [hk q o hh] at hn; cases hn⟩
/-- A field is stored. -/
theorem Env.cellset (E : Env w0 w l) (i : Nat) (hi : l[i]? = some (Hp.box b cs T)) (j : Nat) (v : Value) : Env w0 (w.setCell ⟨b, j, .none⟩ v) (l.set i (Hp.box b (cs.set j v) T)) := E.upd i hi (Upd.oneSet (E.sub i hi) j v)
theorem Env.cell (E : Env w0 w l) (i : Nat) (hi : l[i]? = some (Hp.box b cs T)) (j : Nat) {v : Value} (hv : cs[j]? = some v) : w.cell? ⟨b, j, .none⟩ = some v := by
  rw [cell_of_row w b j _ _ _ (E.sub i hi b _ (Hp.one_self b _))]; simpa using hv
theorem Env.free (E : Env w0 w l) (i : Nat) (hi : l[i]? = some (Hp.box b cs T)) (n : Nat) : w.frozen? ⟨b, n, .none⟩ = false := frozen_of_row w b n _ T (E.sub i hi b _ (Hp.one_self b _))
end
theorem Env.swap2 {w0 w : World} {a b c d : Hp} (E : Env w0 w [a, b, c, d]) : Env w0 w [a, b, d, c] :=
  ⟨⟨E.own.1, fun k hk => E.own.2.1 k (by simp at hk ⊢; rcases hk with h | h | h <;> simp [h]), E.own.2.2.1, fun k hk => E.own.2.2.2.1 k (by simp at hk ⊢; rcases hk with h | h <;> simp [h]), E.own.2.2.2.2.swap⟩, fun h m => E.fr h (by simp at m ⊢; rcases m with h | h | h | h <;> simp [h]), E.low⟩
theorem Below.drN {B : Nat} {a w : World} (h : Below B a w) (n : Nat) : Below B a (w.drewN n) := h.trans ⟨rfl, rfl, rfl, Nat.le_refl _, fun _ _ => rfl⟩
/-- What was made since the start. -/
theorem Env.made {w0 w : World} {l : List Hp} {h : Hp} (E : Env w0 w l) (m : h ∈ l) : Upd Hp.none h w0 w := ⟨E.low.os, E.low.tape, E.low.output, E.low.size, fun q hq _ => E.low.block q hq, E.own.mem h m, fun q hq => .inr (E.fr h m q hq)⟩
/-- A call that turns nothing, in a quiet region: the first one of a walk, or a later one. -/
theorem quiet_one {P : Program} {f : FuncId} {args : Array Value} {W : World} {n : Nat} {v : Value} (h : Calls P f args (W.drewN n) fun e w' => e = .returned v ∧ W.drewN n = w') :
    Calls P f args (W.drewN n) fun e w' => e = .returned v ∧ ∃ m, w' = W.drewN m := h.mono fun _ _ ⟨a, b⟩ => ⟨a, n, b.symm⟩
theorem quiet_more {P : Program} {f : FuncId} {args : Array Value} {W : World} {k n : Nat} {v : Value} (h : Calls P f args (W.drewN (k + n)) fun e w' => e = .returned v ∧ W.drewN (k + n) = w') :
    Calls P f args (W.drewN (k + n)) fun e w' => e = .returned v ∧ ∃ m, w' = W.drewN (k + m) := h.mono fun _ _ ⟨a, b⟩ => ⟨a, n, b.symm⟩
end Go.Sl
end
section
/- What the type table says of api.Vintage. -/
namespace Go.Proofs.YtnfedcaehkcffaaGreat
open Go.RowKit Go.Sl
set_option maxHeartbeats 1000000
set_option maxRecDepth 100000
theorem info_vint : Info Tryz.prog 100 (.agg #[.int .i64 0, .int .i64 0, .int .i64 0]) 3 24 := by unfold Info; kernel_rfl
end Go.Proofs.YtnfedcaehkcffaaGreat
end
