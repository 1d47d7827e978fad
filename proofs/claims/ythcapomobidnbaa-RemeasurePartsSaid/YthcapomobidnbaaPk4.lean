/- Walks and plain facts that the laws of this seat share, part 4: contracts of functions, each said at its theorem. -/
import Derived.Test.YthcapomobidnbaaPk3
import Derived.WalkKit
import Derived.Laws.StructEq
section
/- Plain facts about rolls: rows turned round, sums, classes, what a bucket moved. -/
namespace Go.Sl
open Go Go.RowKit
/-- The way back. -/
def swapW (r : SWay) : SWay := ⟨r.cls, r.yr, r.clo, wrap64 (r.opn - r.clo), r.opn⟩
theorem wayOf_swap (o c : List STri) (cl yr : Int) : wayOf c o cl yr = (wayOf o c cl yr).map swapW := by
  unfold wayOf
  by_cases h : getB o cl yr ≠ 0 ∨ getB c cl yr ≠ 0
  · rw [if_pos h, if_pos h.symm]; rfl
  · rw [if_neg h, if_neg (fun e => h e.symm)]; rfl
theorem yrsTo_swap (o c : List STri) (cl : Int) : ∀ n, yrsTo c o cl n = (yrsTo o c cl n).map swapW
  | 0 => rfl
  | n + 1 => by simp only [yrsTo, List.map_append, yrsTo_swap o c cl n, wayOf_swap o c]
theorem clsTo_swap (o c : List STri) : ∀ n, clsTo c o n = (clsTo o c n).map swapW
  | 0 => rfl
  | n + 1 => by simp only [clsTo, List.map_append, clsTo_swap o c n, yrsTo_swap o c]
theorem refFwd_swap (o c : List STri) : refFwd c o = (refFwd o c).map swapW := clsTo_swap o c 9
/-- What a row of two registers is. -/
theorem row_of {o c : List STri} {r : SWay} (h : r ∈ refFwd o c) : (r.opn ≠ 0 ∨ r.clo ≠ 0) ∧ r.opn = getB o r.cls r.yr ∧ r.clo = getB c r.cls r.yr ∧ r.mov = wrap64 (r.clo - r.opn) ∧ 1 ≤ r.cls ∧ r.cls ≤ 9 ∧ 0 ≤ r.yr ∧ r.yr ≤ 99 := by
  obtain ⟨k, y, hk, hy, hx⟩ := mem_clsTo.1 h
  obtain ⟨hne, rfl⟩ := mem_wayOf.1 hx
  exact ⟨hne, rfl, rfl, rfl, by show 1 ≤ (k : Int) + 1; omega, by show (k : Int) + 1 ≤ 9; omega, by show 0 ≤ (y : Int); omega, by show (y : Int) ≤ 99; omega⟩
theorem wrap64_small {n : Int} (h : -9223372036854775808 ≤ n ∧ n ≤ 9223372036854775807) : wrap64 n = n := by unfold wrap64; omega
theorem row_good {o c : List STri} (go : GoodR o) (gc : GoodR c) {r : SWay} (h : r ∈ refFwd o c) : (-100000000000 ≤ r.opn ∧ r.opn ≤ 100000000000) ∧ (-100000000000 ≤ r.clo ∧ r.clo ≤ 100000000000) ∧ r.mov = r.clo - r.opn := by
  obtain ⟨_, h1, h2, h3, _⟩ := row_of h
  have g1 := go.get r.cls r.yr
  have g2 := gc.get r.cls r.yr
  rw [← h1] at g1
  rw [← h2] at g2
  exact ⟨g1, g2, by rw [h3, wrap64_small (by omega)]⟩
theorem rising_ref (o c : List STri) : Rising ordPair wkey (refFwd o c) := rising_cls 9
/-- A bucket's row, of two registers. -/
theorem find_ref {o c : List STri} (cl yr : Int) (h : getB o cl yr ≠ 0 ∨ getB c cl yr ≠ 0) (hr : 1 ≤ cl ∧ cl ≤ 9 ∧ 0 ≤ yr ∧ yr ≤ 99) : find wkey (cl, yr) (refFwd o c) = some ⟨cl, yr, getB o cl yr, wrap64 (getB c cl yr - getB o cl yr), getB c cl yr⟩ := by
  refine find_mem (o := ordPair) (rising_ref o c) (y := ⟨cl, yr, getB o cl yr, wrap64 (getB c cl yr - getB o cl yr), getB c cl yr⟩) ?_
  refine mem_clsTo.2 ⟨(cl - 1).toNat, yr.toNat, by omega, by omega, ?_⟩
  have e1 : (((cl - 1).toNat : Nat) : Int) + 1 = cl := by omega
  have e2 : ((yr.toNat : Nat) : Int) = yr := by omega
  rw [e1, e2, mem_wayOf]
  exact ⟨h, rfl⟩
theorem find_ref_none {o c : List STri} (cl yr : Int) (h : ¬(getB o cl yr ≠ 0 ∨ getB c cl yr ≠ 0)) : find wkey (cl, yr) (refFwd o c) = none := by
  refine find_miss fun r hr e => ?_
  obtain ⟨hne, h1, h2, _⟩ := row_of hr
  simp only [wkey, Prod.mk.injEq] at e
  rw [h1, h2, e.1, e.2] at hne
  exact h hne
/-- What a bucket moved: the first row of it. -/
def mvAt (rows : List SWay) (cl yr : Int) : Int := match find wkey (cl, yr) rows with | some r => r.mov | none => 0
theorem mvAt_ref {o c : List STri} (go : GoodR o) (gc : GoodR c) (cl yr : Int) (hr : 1 ≤ cl ∧ cl ≤ 9 ∧ 0 ≤ yr ∧ yr ≤ 99) : mvAt (refFwd o c) cl yr = getB c cl yr - getB o cl yr := by
  have g1 := go.get cl yr
  have g2 := gc.get cl yr
  unfold mvAt
  by_cases h : getB o cl yr ≠ 0 ∨ getB c cl yr ≠ 0
  · rw [find_ref cl yr h hr]; exact wrap64_small (by omega)
  · rw [find_ref_none cl yr h]; show (0 : Int) = _; omega
/-- The opening's buckets are those of the rows. -/
def opnB (r : SWay) : STri := ⟨r.cls, r.yr, r.opn⟩
def cloB (r : SWay) : STri := ⟨r.cls, r.yr, r.clo⟩
theorem rows_opn {o c : List STri} (go : GoodR o) : ((refFwd o c).filter fun r => !decide (r.opn = 0)).map opnB = o := by
  refine Rising.ext ordPair rkey ?_ go.rise fun x => ?_
  · unfold Rising
    rw [List.pairwise_map]
    exact (rising_ref o c).filter _ _ _
  · rw [List.mem_map]
    constructor
    · rintro ⟨r, hr, rfl⟩
      obtain ⟨h1, h2⟩ := List.mem_filter.1 hr
      obtain ⟨_, e1, _⟩ := row_of h1
      have h2' : r.opn ≠ 0 := by simpa using h2
      unfold getB at e1
      cases hf : find rkey (r.cls, r.yr) o with
      | none => rw [hf] at e1; exact absurd e1 h2'
      | some b =>
        rw [hf] at e1
        obtain ⟨m1, m2⟩ := find_some hf
        have : opnB r = b := by
          simp only [rkey, Prod.mk.injEq] at m2
          show (⟨r.cls, r.yr, r.opn⟩ : STri) = b
          rw [← m2.1, ← m2.2, show r.opn = b.c from e1]
        rw [this]; exact m1
    · intro hx
      have hn := go.nz x hx
      have hb := go.rng x hx
      have hg : getB o x.a x.b = x.c := by unfold getB; rw [show ((x.a, x.b) : Int × Int) = rkey x from rfl, find_mem (o := ordPair) go.rise hx]
      have hb' : 1 ≤ x.a ∧ x.a ≤ 9 ∧ 0 ≤ x.b ∧ x.b ≤ 99 := by simpa [bucketOk] using hb
      obtain ⟨m1, m2⟩ := find_some (find_ref (o := o) (c := c) x.a x.b (.inl (by rw [hg]; exact hn)) hb')
      refine ⟨_, List.mem_filter.2 ⟨m1, by simpa [hg] using hn⟩, ?_⟩
      show (⟨x.a, x.b, getB o x.a x.b⟩ : STri) = x
      rw [hg]
theorem rows_clo {o c : List STri} (gc : GoodR c) : ((refFwd o c).filter fun r => !decide (r.clo = 0)).map cloB = c := by
  have h := rows_opn (c := o) gc
  rw [refFwd_swap o c, List.filter_map, List.map_map] at h
  exact h
theorem sum_filter (f : SWay → Int) : ∀ l : List SWay, ((l.filter fun r => !decide (f r = 0)).map f).sum = (l.map f).sum
  | [] => rfl
  | r :: l => by
    have ih := sum_filter f l
    by_cases h : f r = 0
    · simp [h, ih]
    · simp [h, ih]
theorem sum_opn {o c : List STri} (go : GoodR o) : ((refFwd o c).map (·.opn)).sum = sumC o := by
  have h := rows_opn (c := c) go
  rw [← sum_filter]
  conv => rhs; rw [← h]
  unfold sumC
  rw [List.map_map]; rfl
theorem sum_clo {o c : List STri} (gc : GoodR c) : ((refFwd o c).map (·.clo)).sum = sumC c := by
  have h := rows_clo (o := o) gc
  rw [← sum_filter]
  conv => rhs; rw [← h]
  unfold sumC
  rw [List.map_map]; rfl
theorem len_same {o : List STri} (go : GoodR o) : (refFwd o o).length = o.length := by
  have h := rows_opn (c := o) go
  have e : (refFwd o o).filter (fun r => !decide (r.opn = 0)) = refFwd o o := List.filter_eq_self.2 fun r hr => by
    obtain ⟨hne, h1, h2, _⟩ := row_of hr
    have : r.opn ≠ 0 := by rcases hne with h | h
                           · exact h
                           · rw [h1, ← h2]; exact h
    simpa using this
  rw [e] at h
  conv => rhs; rw [← h]
  rw [List.length_map]
theorem len_ref {o c : List STri} (go : GoodR o) (gc : GoodR c) : (refFwd o c).length ≤ 24 := by
  have h1 := congrArg List.length (rows_opn (c := c) go)
  have h2 := congrArg List.length (rows_clo (o := o) gc)
  rw [List.length_map] at h1 h2
  have l1 := go.len
  have l2 := gc.len
  have key : ∀ l : List SWay, (∀ r ∈ l, r.opn ≠ 0 ∨ r.clo ≠ 0) → l.length ≤ (l.filter fun r => !decide (r.opn = 0)).length + (l.filter fun r => !decide (r.clo = 0)).length := by
    intro l
    induction l with
    | nil => intro _; simp
    | cons r l ih =>
      intro h
      have := ih fun x hx => h x (by simp [hx])
      have hr := h r (by simp)
      by_cases a : r.opn = 0 <;> by_cases b : r.clo = 0 <;> simp [a, b] at hr ⊢ <;> omega
  have := key (refFwd o c) fun r hr => (row_of hr).1
  omega
/-- All movements come to what the sums moved. -/
theorem fold_sum (f : SWay → Int) : ∀ (l : List SWay) (s : Int), l.foldl (fun s r => wrap64 (s + f r)) s = if l = [] then s else wrap64 (s + (l.map f).sum)
  | [], s => by simp
  | r :: l, s => by
    rw [List.foldl_cons, fold_sum f l]
    by_cases h : l = []
    · subst h; simp
    · rw [if_neg h, if_neg (by simp)]
      simp only [List.map_cons, List.sum_cons]
      unfold wrap64; omega
theorem fold_sum0 (f : SWay → Int) (l : List SWay) (hb : -9223372036854775808 ≤ (l.map f).sum ∧ (l.map f).sum ≤ 9223372036854775807) : l.foldl (fun s r => wrap64 (s + f r)) 0 = (l.map f).sum := by
  rw [fold_sum]
  split
  · rename_i h; subst h; rfl
  · rw [Int.zero_add]; exact wrap64_small hb
theorem sum_mov : ∀ l : List SWay, (∀ r ∈ l, r.mov = r.clo - r.opn) → (l.map (·.mov)).sum = (l.map (·.clo)).sum - (l.map (·.opn)).sum
  | [], _ => rfl
  | r :: l, h => by
    have := sum_mov l fun x hx => h x (by simp [hx])
    have h0 := h r (by simp)
    simp only [List.map_cons, List.sum_cons]; omega
theorem movSum_ref {o c : List STri} (go : GoodR o) (gc : GoodR c) : movSum (refFwd o c) = sumC c - sumC o := by
  have e := sum_mov (refFwd o c) fun r hr => (row_good go gc hr).2.2
  rw [sum_opn go, sum_clo gc] at e
  have b1 := go.sum
  have b2 := gc.sum
  have : movSum (refFwd o c) = ((refFwd o c).map (·.mov)).sum := fold_sum0 (·.mov) _ (by omega)
  rw [this, e]
/-- Classes of rising rows: each row goes to the last class, or behind it. -/
theorem ups_last {f : SWay → SWay} {c y : Int} : ∀ {G : List SWay} {g : SWay}, (∀ x ∈ G, wkey x ≠ (c, y)) → wkey g = (c, y) → ups f c y (G ++ [g]) = G ++ [f g]
  | [], g, _, h => by simp [ups, h]
  | x :: G, g, hn, h => by
    have := ups_last (f := f) (G := G) (fun z hz => hn z (by simp [hz])) h
    simp only [List.cons_append, ups, if_neg (hn x (by simp)), this]
theorem ups_miss {f : SWay → SWay} {c y : Int} : ∀ {G : List SWay}, (∀ x ∈ G, wkey x ≠ (c, y)) → ups f c y G = G ++ [f ⟨c, y, 0, 0, 0⟩]
  | [], _ => rfl
  | x :: G, hn => by
    have := ups_miss (f := f) (c := c) (y := y) (G := G) fun z hz => hn z (by simp [hz])
    simp only [List.cons_append, ups, if_neg (hn x (by simp)), this]
/-- Classes rise, and are at most so great. -/
def ClsUpto (G : List SWay) (m : Int) : Prop := (G.Pairwise fun x y => x.cls < y.cls) ∧ ∀ x ∈ G, x.cls ≤ m ∧ x.yr = -1
theorem ClsUpto.mono {G : List SWay} {m n : Int} (h : ClsUpto G m) (hm : m ≤ n) : ClsUpto G n := ⟨h.1, fun x hx => ⟨Int.le_trans (h.2 x hx).1 hm, (h.2 x hx).2⟩⟩
theorem clsStep_app {G : List SWay} {m : Int} (h : ClsUpto G m) {x : SWay} (hx : m ≤ x.cls) (hl : ∀ g, G.getLast? = some g → g.cls ≠ x.cls) (hw : (wrap64 x.opn = x.opn ∧ wrap64 x.mov = x.mov) ∧ wrap64 x.clo = x.clo) :
    clsStep G x = G ++ [⟨x.cls, -1, x.opn, x.mov, x.clo⟩] ∧ ClsUpto (clsStep G x) x.cls := by
  have hlt : ∀ y ∈ G, y.cls < x.cls := by
    intro y hy
    cases hg : G.getLast? with
    | none => rw [List.getLast?_eq_none_iff] at hg; subst hg; cases hy
    | some g =>
      obtain ⟨G', rfl⟩ := List.getLast?_eq_some_iff.1 hg
      have h1 := hl g hg
      have h2 := (h.2 g (by simp)).1
      rcases List.mem_append.1 hy with hy | hy
      · have := (List.pairwise_append.1 h.1).2.2 y hy g (by simp); omega
      · simp at hy; subst hy; omega
  have e : clsStep G x = G ++ [⟨x.cls, -1, x.opn, x.mov, x.clo⟩] := by
    unfold clsStep
    rw [ups_miss fun y hy e => by
      have := hlt y hy; simp only [wkey, Prod.mk.injEq] at e; omega]
    simp only [addR, Int.zero_add, hw.1.1, hw.1.2, hw.2]
  refine ⟨e, ?_⟩
  rw [e]
  refine ⟨List.pairwise_append.2 ⟨h.1, by simp, fun y hy z hz => ?_⟩, fun y hy => ?_⟩
  · simp at hz; subst hz; exact hlt y hy
  · rcases List.mem_append.1 hy with hy | hy
    · have := hlt y hy; exact ⟨by omega, (h.2 y hy).2⟩
    · simp at hy; subst hy; exact ⟨Int.le_refl _, rfl⟩
theorem clsStep_last {G : List SWay} {g : SWay} {m : Int} (h : ClsUpto (G ++ [g]) m) {x : SWay} (hg : g.cls = x.cls) : clsStep (G ++ [g]) x = G ++ [addR x g] ∧ ClsUpto (clsStep (G ++ [g]) x) x.cls := by
  have hy := (h.2 g (by simp)).2
  have hlt := (List.pairwise_append.1 h.1).2.2
  have e : clsStep (G ++ [g]) x = G ++ [addR x g] := by
    unfold clsStep
    exact ups_last (fun y hy e => by
      have := hlt y hy g (by simp); simp only [wkey, Prod.mk.injEq] at e; omega) (by simp [wkey, hg, hy])
  refine ⟨e, ?_⟩
  rw [e]
  have h1 := (List.pairwise_append.1 h.1).1
  refine ⟨List.pairwise_append.2 ⟨h1, by simp, fun y hy' z hz => ?_⟩, fun y hy' => ?_⟩
  · simp at hz; subst hz; exact hlt y hy' g (by simp)
  · rcases List.mem_append.1 hy' with hy' | hy'
    · have := hlt y hy' g (by simp)
      exact ⟨by omega, (h.2 y (by simp [hy'])).2⟩
    · simp at hy'; subst hy'; exact ⟨by show g.cls ≤ _; omega, hy⟩
theorem ClsUpto.nil (m : Int) : ClsUpto [] m := ⟨List.Pairwise.nil, by simp⟩
theorem isort_rising_id {l : List SWay} (h : Rising ordPair wkey l) : isort ordPair wkey l = l :=
  Rising.ext ordPair wkey (isort_rising l) h fun _ => mem_isort (h.imp fun hxy => ordPair.ne hxy)
theorem ClsUpto.rising {G : List SWay} {m : Int} (h : ClsUpto G m) : Rising ordPair wkey G := h.1.imp fun hxy => by
  simp [ordPair, wkey, hxy]
/-- Opening and movement are closing, in classes too. -/
def Closes (r : SWay) : Prop := wrap64 (r.opn + r.mov) = r.clo
theorem closes_ups {x : SWay} (hx : Closes x) {c y : Int} : ∀ {G : List SWay}, (∀ r ∈ G, Closes r) → ∀ r ∈ ups (addR x) c y G, Closes r
  | [], _, r, hr => by
    simp [ups] at hr; subst hr
    unfold Closes addR at *
    rw [← hx]; unfold wrap64; simp only; omega
  | g :: G, h, r, hr => by
    have hg := h g (by simp)
    unfold ups at hr
    split at hr
    · rcases List.mem_cons.1 hr with rfl | hr
      · unfold Closes addR at *
        rw [← hx, ← hg]; unfold wrap64; simp only; omega
      · exact h r (by simp [hr])
    · rcases List.mem_cons.1 hr with rfl | hr
      · exact hg
      · exact closes_ups hx (fun z hz => h z (by simp [hz])) r hr
theorem closes_fold : ∀ (l G : List SWay), (∀ r ∈ l, Closes r) → (∀ r ∈ G, Closes r ∧ r.yr = -1) → ∀ r ∈ l.foldl clsStep G, Closes r ∧ r.yr = -1
  | [], _, _, h, r, hr => h r hr
  | x :: l, G, hl, h, r, hr => by
    refine closes_fold l (clsStep G x) (fun z hz => hl z (by simp [hz])) (fun z hz => ⟨closes_ups (hl x (by simp)) (fun q hq => (h q hq).1) z hz, ?_⟩) r hr
    rcases mem_ups hz with hz | ⟨q, hq, rfl⟩
    · exact (h z hz).2
    · simp only [wkey, Prod.mk.injEq] at hq; exact hq.2
theorem closes_classes {l : List SWay} (h : ∀ r ∈ l, Closes r) : ∀ r ∈ classes l, Closes r ∧ r.yr = -1 := fun r hr =>
  closes_fold l [] h (by simp) r ((mem_isort (cls_dist l [] List.Pairwise.nil)).1 hr)
end Go.Sl
end
section
/- Remeasuring, plain: why deferred tax is another one. -/
namespace Go.Sl
open Go Go.RowKit
/-- A row, its old rate, its rate now: may they be? -/
def remOk (r : SWay) (o n : Int) : Bool := rightRate o && (rightRate n && (money r.opn && money r.clo))
def remM (r : SWay) (n : Int) : Int := ofVal r.clo n - ofVal r.opn n
def remR (r : SWay) (o n : Int) : Int := ofVal r.opn n - ofVal r.opn o
def remAll : List SWay → List Int → List Int → Bool
  | r :: rows, o :: os, n :: ns => remOk r o n && remAll rows os ns
  | _, _, _ => true
def sumM : List SWay → List Int → Int
  | r :: rows, n :: ns => remM r n + sumM rows ns
  | _, _ => 0
def sumR : List SWay → List Int → List Int → Int
  | r :: rows, o :: os, n :: ns => remR r o n + sumR rows os ns
  | _, _, _ => 0
def remE (rows : List SWay) (os ns : List Int) : Int :=
  if os.length ≠ rows.length ∨ ns.length ≠ rows.length then 1
  else if remAll rows os ns = false then 1
  else if (money (sumM rows ns) && money (sumR rows os ns)) = false then 6 else 0
def remMo (rows : List SWay) (os ns : List Int) : Int := if remE rows os ns = 0 then sumM rows ns else 0
def remRa (rows : List SWay) (os ns : List Int) : Int := if remE rows os ns = 0 then sumR rows os ns else 0
theorem sumM_snoc {r : SWay} {n : Int} : ∀ {rows : List SWay} {ns : List Int}, rows.length = ns.length → sumM (rows ++ [r]) (ns ++ [n]) = sumM rows ns + remM r n
  | [], [], _ => by simp [sumM]
  | x :: rows, y :: ns, h => by
    have := sumM_snoc (r := r) (n := n) (rows := rows) (ns := ns) (by simpa using h)
    simp only [List.cons_append, sumM, this]; omega
  | [], _ :: _, h => by simp at h
  | _ :: _, [], h => by simp at h
theorem sumR_snoc {r : SWay} {o n : Int} : ∀ {rows : List SWay} {os ns : List Int}, rows.length = os.length → rows.length = ns.length → sumR (rows ++ [r]) (os ++ [o]) (ns ++ [n]) = sumR rows os ns + remR r o n
  | [], [], [], _, _ => by simp [sumR]
  | x :: rows, z :: os, y :: ns, h, h2 => by
    have := sumR_snoc (r := r) (o := o) (n := n) (rows := rows) (os := os) (ns := ns) (by simpa using h) (by simpa using h2)
    simp only [List.cons_append, sumR, this]; omega
  | [], _ :: _, _, h, _ => by simp at h
  | [], [], _ :: _, _, h => by simp at h
  | _ :: _, [], _, h, _ => by simp at h
  | _ :: _, _ :: _, [], _, h => by simp at h
theorem remAll_snoc {r : SWay} {o n : Int} : ∀ {rows : List SWay} {os ns : List Int}, rows.length = os.length → rows.length = ns.length → remAll (rows ++ [r]) (os ++ [o]) (ns ++ [n]) = (remAll rows os ns && remOk r o n)
  | [], [], [], _, _ => by simp [remAll]
  | x :: rows, z :: os, y :: ns, h, h2 => by
    have := remAll_snoc (r := r) (o := o) (n := n) (rows := rows) (os := os) (ns := ns) (by simpa using h) (by simpa using h2)
    simp only [List.cons_append, remAll, this, Bool.and_assoc]
  | [], _ :: _, _, h, _ => by simp at h
  | [], [], _ :: _, _, h => by simp at h
  | _ :: _, [], _, h, _ => by simp at h
  | _ :: _, _ :: _, [], _, h => by simp at h
theorem remM_bd (r : SWay) (n : Int) : -8000000000002 ≤ remM r n ∧ remM r n ≤ 8000000000002 := by
  have a := ofVal_bd r.clo n
  have b := ofVal_bd r.opn n
  unfold remM; omega
theorem remR_bd (r : SWay) (o n : Int) : -8000000000002 ≤ remR r o n ∧ remR r o n ≤ 8000000000002 := by
  have a := ofVal_bd r.opn o
  have b := ofVal_bd r.opn n
  unfold remR; omega
theorem sumM_bd : ∀ (rows : List SWay) (ns : List Int), -(rows.length * 8000000000002) ≤ sumM rows ns ∧ sumM rows ns ≤ rows.length * 8000000000002
  | r :: rows, n :: ns => by
    have h1 := sumM_bd rows ns
    have h2 := remM_bd r n
    simp only [sumM, List.length_cons]; omega
  | [], _ => by simp [sumM]
  | _ :: _, [] => by simp only [sumM, List.length_cons]; omega
theorem sumR_bd : ∀ (rows : List SWay) (os ns : List Int), -(rows.length * 8000000000002) ≤ sumR rows os ns ∧ sumR rows os ns ≤ rows.length * 8000000000002
  | r :: rows, o :: os, n :: ns => by
    have h1 := sumR_bd rows os ns
    have h2 := remR_bd r o n
    simp only [sumR, List.length_cons]; omega
  | [], _, _ => by simp [sumR]
  | _ :: _, [], _ => by simp only [sumR, List.length_cons]; omega
  | _ :: _, _ :: _, [] => by simp only [sumR, List.length_cons]; omega
/-- A row that may not be, anywhere, ends it. -/
theorem remAll_no {r : SWay} {o n : Int} : ∀ {rows : List SWay} {os ns : List Int} {j : Nat}, rows[j]? = some r → os[j]? = some o → ns[j]? = some n → remOk r o n = false → remAll rows os ns = false
  | x :: rows, z :: os, y :: ns, 0, h1, h2, h3, h => by
    simp at h1 h2 h3; subst h1; subst h2; subst h3
    simp [remAll, h]
  | x :: rows, z :: os, y :: ns, j + 1, h1, h2, h3, h => by
    have := remAll_no (rows := rows) (os := os) (ns := ns) (j := j) (by simpa using h1) (by simpa using h2) (by simpa using h3) h
    simp [remAll, this]
  | [], _, _, _, h1, _, _, _ => by simp at h1
  | _ :: _, [], _, _, _, h2, _, _ => by simp at h2
  | _ :: _, _ :: _, [], _, _, _, h3, _ => by simp at h3
theorem fwd_len (o c : List STri) : (fwd o c).length ≤ o.length + c.length := by
  have h1 := fold_len fC_len c (o.foldl fO [])
  have h2 := fold_len fO_len o []
  have h3 := isort_len (fwdRaw_dist o c)
  unfold fwd
  rw [h3]
  unfold fwdRaw
  rw [List.length_map]
  simp at h2; omega
/-- Deferred tax of buckets. -/
def meaOk (b : STri) (r : Int) : Bool := rightRate r && money b.c
def meaAll : List STri → List Int → Bool
  | b :: bs, r :: rs => meaOk b r && meaAll bs rs
  | _, _ => true
def meaS : List STri → List Int → Int
  | b :: bs, r :: rs => ofVal b.c r + meaS bs rs
  | _, _ => 0
def meaE (bs : List STri) (rs : List Int) : Int :=
  if rs.length ≠ bs.length then 1
  else if meaAll bs rs = false then 1
  else if money (-meaS bs rs) = false then 6 else 0
def meaN (bs : List STri) (rs : List Int) : Int := if meaE bs rs = 0 then -meaS bs rs else 0
theorem meaS_snoc {b : STri} {r : Int} : ∀ {bs : List STri} {rs : List Int}, bs.length = rs.length → meaS (bs ++ [b]) (rs ++ [r]) = meaS bs rs + ofVal b.c r
  | [], [], _ => by simp [meaS]
  | x :: bs, y :: rs, h => by
    have := meaS_snoc (b := b) (r := r) (bs := bs) (rs := rs) (by simpa using h)
    simp only [List.cons_append, meaS, this]; omega
  | [], _ :: _, h => by simp at h
  | _ :: _, [], h => by simp at h
theorem meaAll_snoc {b : STri} {r : Int} : ∀ {bs : List STri} {rs : List Int}, bs.length = rs.length → meaAll (bs ++ [b]) (rs ++ [r]) = (meaAll bs rs && meaOk b r)
  | [], [], _ => by simp [meaAll]
  | x :: bs, y :: rs, h => by
    have := meaAll_snoc (b := b) (r := r) (bs := bs) (rs := rs) (by simpa using h)
    simp only [List.cons_append, meaAll, this, Bool.and_assoc]
  | [], _ :: _, h => by simp at h
  | _ :: _, [], h => by simp at h
theorem meaS_bd : ∀ (bs : List STri) (rs : List Int), -(bs.length * 4000000000001) ≤ meaS bs rs ∧ meaS bs rs ≤ bs.length * 4000000000001
  | b :: bs, r :: rs => by
    have h1 := meaS_bd bs rs
    have h2 := ofVal_bd b.c r
    simp only [meaS, List.length_cons]; omega
  | [], _ => by simp [meaS]
  | _ :: _, [] => by simp only [meaS, List.length_cons]; omega
theorem meaAll_no {b : STri} {r : Int} : ∀ {bs : List STri} {rs : List Int} {j : Nat}, bs[j]? = some b → rs[j]? = some r → meaOk b r = false → meaAll bs rs = false
  | x :: bs, y :: rs, 0, h1, h2, h => by
    simp at h1 h2; subst h1; subst h2
    simp [meaAll, h]
  | x :: bs, y :: rs, j + 1, h1, h2, h => by
    have := meaAll_no (bs := bs) (rs := rs) (j := j) (by simpa using h1) (by simpa using h2) h
    simp [meaAll, this]
  | [], _, _, h1, _, _ => by simp at h1
  | _ :: _, [], _, _, h2, _ => by simp at h2
theorem Pt.regO {T : TypeId} {h : Hp} {b : Nat} {l : List STri} {w : World} (p : Pt kReg T h b l) (s : h.sub w) : ∃ A ca, w.cell? ⟨b, 0, none⟩ = some (.slice A l.length ca) ∧ Ow kTri (h.del b) A ca l := by
  obtain ⟨cs, hb, A, ca, rfl, ow⟩ := p
  exact ⟨A, ca, by rw [cell_of_row w b 0 _ _ _ (s b _ hb)]; rfl, ow⟩
end Go.Sl
end
section
/- '==' and '!=' of structs as one Bool. No program is named here. -/
namespace Go.Sl
open Go Go.RowKit
section
variable {P : Program} {d : Nat} {xs ys : Array Value} {f : Field} {fs : List Field} {a b : Value} {r s : Bool} {w : World}

theorem eqFields_nil : (Op.eqFields d xs ys []).run P w = .ok true w := by simp [Op.eqFields]
theorem eqFields_cons (hn : (f.name == "_") = false) (ha : (Go.part f.type xs f.offset).run P w = .ok a w) (hb : (Go.part f.type ys f.offset).run P w = .ok b w)
    (he : (Op.equalIn d f.type a b).run P w = .ok r w) (hr : (Op.eqFields d xs ys fs).run P w = .ok s w) : (Op.eqFields d xs ys (f :: fs)).run P w = .ok (r && s) w := by
  have hn' : f.name ≠ "_" := by simpa using hn
  rw [Op.eqFields]
  simp only [if_pos hn', Sem.run_bind, ha, hb, he, Result.andThen_ok]
  cases r
  · simp
  · simpa using hr
theorem equalIn_struct {t : TypeId} {fs : Array Field} (hu : P.underlying t = some (.struct fs)) (hp : P.stoodInHeld t = false)
    (h : (Op.eqFields d xs ys fs.toList).run P w = .ok r w) : (Op.equalIn (d + 1) t (.agg xs) (.agg ys)).run P w = .ok r w := by
  have hf : P.fieldsOf t = fs := by simp [Program.fieldsOf, hu]
  rw [run_equalIn_struct (P := P) w d t xs ys (by rw [hf]; exact hu) hp, hf]
  exact h
theorem neq_struct {t : TypeId} (h : (Op.equalIn 10000 t (.agg xs) (.agg ys)).run P w = .ok r w) : (binOp .neq t (.agg xs) (.agg ys)).run P w = .ok (.bool (!r)) w := by
  rw [run_neq_struct, h]; rfl
theorem eql_struct {t : TypeId} (h : (Op.equalIn 10000 t (.agg xs) (.agg ys)).run P w = .ok r w) : (binOp .eql t (.agg xs) (.agg ys)).run P w = .ok (.bool r) w := by
  rw [run_eql_struct, h]; rfl
end
end Go.Sl
end
section
/- '==' and '!=' of roll.Row. -/
namespace Go.Proofs.Ythcapomobidnbaa
open Go.RowKit Go.Sl
set_option maxHeartbeats 1000000
set_option maxRecDepth 100000
theorem equalIn_row (d : Nat) (x0 y0 : Int) (x1 y1 : Int) (x2 y2 : Int) (x3 y3 : Int) (x4 y4 : Int) (w : World) : (Op.equalIn (d + 2) 36 (.agg #[.int .i64 x0, .int .i64 x1, .int .i64 x2, .int .i64 x3, .int .i64 x4]) (.agg #[.int .i64 y0, .int .i64 y1, .int .i64 y2, .int .i64 y3, .int .i64 y4])).run Try.prog w = .ok (x0 == y0 && (x1 == y1 && (x2 == y2 && (x3 == y3 && (x4 == y4 && (true)))))) w := by
  refine equalIn_struct (d := d + 1) Try.underlying36 (by kernel_rfl) ?_
  refine eqFields_cons (by rfl) (by go_simp; rfl) (by go_simp; rfl) (by go_simp) ?_
  refine eqFields_cons (by rfl) (by go_simp; rfl) (by go_simp; rfl) (by go_simp) ?_
  refine eqFields_cons (by rfl) (by go_simp; rfl) (by go_simp; rfl) (by go_simp) ?_
  refine eqFields_cons (by rfl) (by go_simp; rfl) (by go_simp; rfl) (by go_simp) ?_
  refine eqFields_cons (by rfl) (by go_simp; rfl) (by go_simp; rfl) (by go_simp) ?_
  exact eqFields_nil
theorem eqc_row (x y : SWay) : (x.cls == y.cls && (x.yr == y.yr && (x.opn == y.opn && (x.mov == y.mov && (x.clo == y.clo && (true)))))) = decide (x = y) := by
  rw [Bool.eq_iff_iff]; cases x; cases y; simp
theorem ne_row (x y : SWay) (w : World) : (binOp .neq 36 (.agg #[.int .i64 x.cls, .int .i64 x.yr, .int .i64 x.opn, .int .i64 x.mov, .int .i64 x.clo]) (.agg #[.int .i64 y.cls, .int .i64 y.yr, .int .i64 y.opn, .int .i64 y.mov, .int .i64 y.clo])).run Try.prog w = .ok (.bool (neB x y)) w := by
  have h := equalIn_row 9998 x.cls y.cls x.yr y.yr x.opn y.opn x.mov y.mov x.clo y.clo w
  simp only [Nat.reduceAdd] at h
  rw [neq_struct h, eqc_row]; rfl
theorem eq_row (x y : SWay) (w : World) : (binOp .eql 36 (.agg #[.int .i64 x.cls, .int .i64 x.yr, .int .i64 x.opn, .int .i64 x.mov, .int .i64 x.clo]) (.agg #[.int .i64 y.cls, .int .i64 y.yr, .int .i64 y.opn, .int .i64 y.mov, .int .i64 y.clo])).run Try.prog w = .ok (.bool (eqB x y)) w := by
  have h := equalIn_row 9998 x.cls y.cls x.yr y.yr x.opn y.opn x.mov y.mov x.clo y.clo w
  simp only [Nat.reduceAdd] at h
  rw [eql_struct h, eqc_row]; rfl
end Go.Proofs.Ythcapomobidnbaa
end
section
/- law11.wakes: the document's example of chapter 11. -/
namespace Go.Proofs.Ythcapomobidnbaa
open Go.RowKit Go.Sl
set_option maxHeartbeats 1000000
set_option maxRecDepth 100000
/-- Forward, in a body's own memory. -/
theorem Rol.forward {w0 w : World} {l : List Hp} (E : Env w0 w l) {A B : Option Addr} {ca cb : Nat} {xs ys : List STri} {h k : Hp} (sx : Sl kTri h A ca xs) (hs : h.sub w) (sy : Sl kTri k B cb ys) (ks : k.sub w) (hx : xs.length ≤ 1000) (hy : ys.length ≤ 1000) (n m : Nat) (hn : xs.length = n) (hm : ys.length = m) {q : List SWay} (hq : fwd xs ys = q) :
    Calls Try.prog 17 #[.slice A n ca, .slice B m cb] w fun e w' => ∃ C cap h', e = .returned (.slice C q.length cap) ∧ Ow kWay h' C cap q ∧ Env w0 w' (l ++ [h']) := by
  subst hn
  subst hm
  subst hq
  exact (forward_calls A B ca cb xs ys h k w hs ks sx sy hx hy).mono fun _ _ ⟨C, cap, h', he, ho, u⟩ => ⟨C, cap, h', he, ho, E.new u⟩
theorem wakes11 (w : World) : Calls Try.prog 20 #[] w fun e w' => e = .returned (.bool true) ∧ Below w.heap.size w w' := by
  have E0 := Env.start w
  have H1 : Hid (fwd [⟨1, 2, 5⟩] [⟨1, 2, 7⟩] = [⟨1, 2, 5, 2, 7⟩]) := by unfold Hid; simp [fwd, fwdRaw, fO, fC, ups, setO, setC, fM, isort, put, wkey, ordPair, wrap64]
  have H2 : Hid (fwd [] [] = []) := rfl
  have HE := eq_row ⟨1, 2, 5, 2, 7⟩ ⟨1, 2, 5, 2, 7⟩
  have hb : eqB (⟨1, 2, 5, 2, 7⟩ : SWay) ⟨1, 2, 5, 2, 7⟩ = true := eqB_t rfl
  rw [hb] at HE
  clear hb
  go_enter Try.func20, Try.ntmps20
  go_wp2_with fail
  have E1 := (E0.alloc (.cells #[.int .i64 1, .int .i64 2, .int .i64 5] 40)).alloc (.cells #[.int .i64 1, .int .i64 2, .int .i64 7] 40)
  simp at E1
  refine (Rol.forward E1 (xs := [⟨1, 2, 5⟩]) (ys := [⟨1, 2, 7⟩]) (Sl.lit (Hp.one_self _ _) (by unfold maxLen; decide)) (E1.sub 0 rfl) (Sl.lit (Hp.one_self _ _) (by unfold maxLen; decide)) (E1.sub 1 (by simp; rfl)) (by decide) (by decide) 1 1 rfl rfl H1.out).mono ?_
  rintro e w2 ⟨C, cap, h2, rfl, o2, E2⟩
  obtain ⟨b2, of2, rfl, d1, d2, d3, d4, d5⟩ := o2.sl.way (E2.sub 2 rfl) (show Hid ([(⟨1, 2, 5, 2, 7⟩ : SWay)][0]? = some ⟨1, 2, 5, 2, 7⟩) from rfl)
  rw [Nat.zero_mul, Nat.add_zero] at d1 d2 d3 d4 d5
  go_wp2_with fail
  refine (Rol.forward E2 (xs := []) (ys := []) (Sl.none kTri Hp.none) (Hp.none_sub _) (Sl.none kTri Hp.none) (Hp.none_sub _) (by decide) (by decide) 0 0 rfl rfl H2.out).mono ?_
  rintro e w3 ⟨C3, cap3, h3, rfl, o3, E3⟩
  go_wp2
  go_ret
  exact ⟨rfl, E3.low⟩
end Go.Proofs.Ythcapomobidnbaa
end
section
/- The walk of the reference's register: set. -/
namespace Go.Sl
theorem setGo_skip {x y : STri} {d : Bool} {l : List STri} (h : rkey y = rkey x) : setGo ordPair rkey x d (y :: l) = setGo ordPair rkey x d l := by simp [setGo, h]
theorem setGo_keep {x y : STri} {d : Bool} {l : List STri} (h : rkey y ≠ rkey x) (h2 : d = true ∨ ordPair.lt (rkey x) (rkey y) = false) : setGo ordPair rkey x d (y :: l) = y :: setGo ordPair rkey x d l := by
  rw [setGo, if_neg h, if_neg]; rintro ⟨a, b⟩; rcases h2 with h2 | h2 <;> simp_all
theorem setGo_lay {x y : STri} {l : List STri} (h : ordPair.lt (rkey x) (rkey y) = true) : setGo ordPair rkey x false (y :: l) = x :: y :: setGo ordPair rkey x true l := by
  rw [setGo, if_neg (ordPair.ne h).symm, if_pos ⟨rfl, h⟩]
theorem app2 {α : Type} (l : List α) (x y : α) (r : List α) : l ++ x :: y :: r = (l ++ [x] ++ [y]) ++ r := by simp
theorem app1 {α : Type} (l : List α) (x : α) (r : List α) : l ++ x :: r = (l ++ [x]) ++ r := by simp
end Go.Sl
namespace Go.Proofs.Ythcapomobidnbaa
open Go.RowKit Go.Sl
set_option maxHeartbeats 2000000
set_option maxRecDepth 100000
theorem refSet_calls (b : Nat) (l : List STri) (c y n : Int) (h : Hp) (w : World) (hs : h.sub w) (hp : Pt kReg 30 h b l) (hl : l.length ≤ 1000) (hr : RisingR l) :
    Calls Try.prog 68 #[.pointer (some ⟨b, 0, none⟩), .int .i64 c, .int .i64 y, .int .i64 n] w fun e w' => ∃ h', e = .returned (.tuple #[]) ∧ Pt kReg 30 h' b (setB l c y n) ∧ Upd h h' w w' := by
  obtain ⟨cs, hb, A, ca, rfl, ow⟩ := hp
  have hbw := hs b _ hb
  have hlt := hs.lt (b := b) (by simp [hb])
  have hc : w.cell? ⟨b, 0, none⟩ = some (.slice A l.length ca) := by rw [cell_of_row w b 0 _ _ _ hbw]; rfl
  have hf : w.frozen? ⟨b, 0, none⟩ = false := frozen_of_row w b 0 _ _ hbw
  have sx := ow.sl
  have hd := hs.del b
  have m1 := sx.small
  obtain ⟨G, hG⟩ : ∃ G : Bool → List STri → List STri, G = setGo ordPair rkey ⟨c, y, n⟩ := ⟨_, rfl⟩
  have HG : Hid (setB l c y n = G (decide (n = 0)) l) := by unfold Hid; rw [hG, setGo_setB hr]
  have HE : ∀ d : Bool, Hid (G d [] = if d = true then [] else [⟨c, y, n⟩]) := fun d => by rw [hG]; exact rfl
  have GS : ∀ {x : STri} {d : Bool} {r : List STri}, x.a = c → x.b = y → G d (x :: r) = G d r := fun h1 h2 => by rw [hG]; exact setGo_skip (by simp [rkey, h1, h2])
  have GK : ∀ {x : STri} {d : Bool} {r : List STri}, ¬(x.a = c ∧ x.b = y) → (d = true ∨ ¬(c < x.a ∨ c = x.a ∧ y < x.b)) → G d (x :: r) = x :: G d r := fun h1 h2 => by
    rw [hG]; exact setGo_keep (by simpa [rkey] using h1) (h2.imp id fun h => by simpa [ordPair, rkey] using h)
  have GL : ∀ {x : STri} {r : List STri}, (c < x.a ∨ c = x.a ∧ y < x.b) → G false (x :: r) = ⟨c, y, n⟩ :: x :: G true r := fun h => by rw [hG]; exact setGo_lay (by simpa [ordPair, rkey] using h)
  have GLen : ∀ (d : Bool) (r : List STri), (G d r).length ≤ r.length + 1 := fun d r => by
    rw [hG]; clear hG HG HE GS GK GL
    induction r generalizing d with
    | nil => cases d <;> simp [setGo]
    | cons z r ih =>
      unfold setGo
      have i1 := ih d
      have i2 := ih true
      split
      · simp; omega
      · split
        · have : (setGo ordPair rkey ⟨c, y, n⟩ true r).length ≤ r.length := by rw [setGo_true]; exact del_le _ _
          simp; omega
        · simp; omega
  clear hG
  have hn0 : (n == 0) = decide (n = 0) := by rw [Bool.eq_iff_iff]; simp
  go_enter Try.func68, Try.ntmps68
  go_wp2
  rw [hn0] at *
  generalize decide (n = 0) = d0 at *
  go_loopw [8, 9, 19] (fun v d i wr => ∃ (j cap m : Nat) (dn : Bool) (C : Option Addr) (h' : Hp) (os : List STri), j ≤ l.length ∧ i = .int .i64 j ∧ d = .bool dn ∧ v = .slice C m cap ∧ Hid (os.length = m) ∧ Hid (G d0 l = os ++ G dn (l.drop j)) ∧ m ≤ 2 * j ∧ Ow kTri h' C cap os ∧ Upd Hp.none h' w wr) (fun _ _ i _ => l.length - (intOf i).toNat)
  case atStart => exact ⟨0, 0, 0, d0, none, Hp.none, [], by omega, rfl, rfl, rfl, rfl, by unfold Hid; simp, by omega, Ow.none _ _, Upd.of_below (Below.refl _ _)⟩
  case round =>
    obtain ⟨j, cap, m, dn, C, h', os, hj, rfl, rfl, rfl, hm, hg, hm2, ho, hu⟩ := hrel
    by_cases hlt2 : j < l.length
    · obtain ⟨x, hx⟩ := some_of_lt hlt2
      obtain ⟨b1, o1, rfl, c1, c2, c3⟩ := sx.tri (hd.of_below hu.below) hx
      have i1 : (0 : Int) ≤ (j : Int) := by omega
      have i2 : (j : Int) < (l.length : Int) := by omega
      have HD : Hid (G d0 l = os ++ G dn (x :: l.drop (j + 1))) := by unfold Hid; rw [hg.out, drop_next hx]
      clear hg
      by_cases hk : x.a = c ∧ x.b = y
      · have HN := Lib.hid (HD.out.trans (by rw [GS hk.1 hk.2]))
        have t1 : (x.a == c) = true := by simpa using hk.1
        have t2 : (x.b == y) = true := by simpa using hk.2
        clear hk GS GK GL HD HE GLen
        go_wp2
        go_roundw
        case rel => exact ⟨j + 1, cap, m, dn, C, h', os, by omega, by go_num, rfl, rfl, hm, HN, by omega, ho, hu.after (by repeat (first | exact Below.refl _ _ | apply Below.drew | refine Below.alloc ?_ (by simp) _))⟩
        case measure => simp [intOf]; omega
      · cases dn with
        | true =>
          by_cases ha : x.a = c
          · have hbb : x.b ≠ y := fun e => hk ⟨ha, e⟩
            have t1 : (x.a == c) = true := by simpa using ha
            have t2 : (x.b == y) = false := by simpa using hbb
            have HN : Hid (G d0 l = (os ++ [x]) ++ G true (l.drop (j + 1))) := by unfold Hid; rw [HD.out, GK hk (.inl rfl), app1]
            clear ha hbb
            clear hk GS GK GL HD HE GLen
            go_wp2_with (at_builtin; refine wpList_app1f (h := h') (xs := os) (y := x) Try.underlying28 info_bucket (by rfl) (by rfl) rfl m 1 (by rfl) (by rfl) hm.out ho (hu.sub.of_below (by repeat (first | exact Below.refl _ _ | apply Below.drew | refine Below.alloc ?_ (by simp) _))) (heap_new_at (by simp)) rfl (by omega) (by omega) ?_; intro C' cap' w1 h1 ho1 hu1)
            go_roundw
            case rel => exact ⟨j + 1, cap', m + 1, true, C', h1, os ++ [x], by omega, by go_num, rfl, rfl, by unfold Hid; rw [List.length_append, hm.out]; rfl, HN, by omega, ho1, hu.trans (hu1.before (by repeat (first | exact Below.refl _ _ | apply Below.drew | refine Below.alloc ?_ (by simp) _)))⟩
            case measure => simp [intOf]; omega
          · have t1 : (x.a == c) = false := by simpa using ha
            have HN : Hid (G d0 l = (os ++ [x]) ++ G true (l.drop (j + 1))) := by unfold Hid; rw [HD.out, GK hk (.inl rfl), app1]
            clear ha
            clear hk GS GK GL HD HE GLen
            go_wp2_with (at_builtin; refine wpList_app1f (h := h') (xs := os) (y := x) Try.underlying28 info_bucket (by rfl) (by rfl) rfl m 1 (by rfl) (by rfl) hm.out ho (hu.sub.of_below (by repeat (first | exact Below.refl _ _ | apply Below.drew | refine Below.alloc ?_ (by simp) _))) (heap_new_at (by simp)) rfl (by omega) (by omega) ?_; intro C' cap' w1 h1 ho1 hu1)
            go_roundw
            case rel => exact ⟨j + 1, cap', m + 1, true, C', h1, os ++ [x], by omega, by go_num, rfl, rfl, by unfold Hid; rw [List.length_append, hm.out]; rfl, HN, by omega, ho1, hu.trans (hu1.before (by repeat (first | exact Below.refl _ _ | apply Below.drew | refine Below.alloc ?_ (by simp) _)))⟩
            case measure => simp [intOf]; omega
        | false =>
          by_cases hlt3 : c < x.a ∨ c = x.a ∧ y < x.b
          · by_cases ha : x.a = c
            · have hbb : y < x.b := by omega
              have t1 : (x.a == c) = true := by simpa using ha
              have t2 : (x.b == y) = false := by simp; omega
              have t3 : decide (c < x.a) = false := by simp; omega
              have t4 : decide (y < x.b) = true := by simpa using hbb
              have HN : Hid (G d0 l = (os ++ [⟨c, y, n⟩] ++ [x]) ++ G true (l.drop (j + 1))) := by unfold Hid; rw [HD.out, GL hlt3, app2]
              clear ha hbb hlt3
              clear hk GS GK GL HD HE GLen
              have hm3 : Hid ((os ++ [(⟨c, y, n⟩ : STri)]).length = m + 1) := by unfold Hid; rw [List.length_append, hm.out]; rfl
              have hfree : Hid (h' wr.heap.size = none) := hu.sub.free (Nat.le_refl _)
              go_wp2_with (first | (at_builtin; refine wpList_app1f (h := h') (xs := os) (y := ⟨c, y, n⟩) Try.underlying28 info_bucket (by rfl) (by rfl) rfl m 1 (by rfl) (by rfl) hm.out ho (hu.sub.of_below (by repeat (first | exact Below.refl _ _ | apply Below.drew | refine Below.alloc ?_ (by simp) _))) (heap_new_at (by simp)) rfl (by omega) (by omega) ?_; intro C' cap' w1 h1 ho1 hu1; have k0 : w1.cell? ⟨wr.heap.size, 0, none⟩ = some (.int .i64 x.a) := hu1.cell (by simp) hfree.out; have k1 : w1.cell? ⟨wr.heap.size, 1, none⟩ = some (.int .i64 x.b) := hu1.cell (by simp) hfree.out; have k2 : w1.cell? ⟨wr.heap.size, 2, none⟩ = some (.int .i64 x.c) := hu1.cell (by simp) hfree.out) | (at_builtin; refine wpList_app1f (h := h1) (xs := os ++ [⟨c, y, n⟩]) (y := x) Try.underlying28 info_bucket (by rfl) (by rfl) rfl (m + 1) 1 (by rfl) (by rfl) hm3.out ho1 (hu1.sub.of_below (by repeat (first | exact Below.refl _ _ | apply Below.drew | refine Below.alloc ?_ (by simp) _))) (heap_new_at (by simp)) rfl (by omega) (by omega) ?_; intro C2 cap2 w2 h2 ho2 hu2))
              go_roundw
              case rel => exact ⟨j + 1, cap2, m + 1 + 1, true, C2, h2, os ++ [⟨c, y, n⟩] ++ [x], by omega, by go_num, rfl, rfl, by unfold Hid; rw [List.length_append, hm3.out]; rfl, HN, by omega, ho2, (hu.trans (hu1.before (by repeat (first | exact Below.refl _ _ | apply Below.drew | refine Below.alloc ?_ (by simp) _)))).trans (hu2.before (by repeat (first | exact Below.refl _ _ | apply Below.drew | refine Below.alloc ?_ (by simp) _)))⟩
              case measure => simp [intOf]; omega
            · have hbb : c < x.a := by omega
              have t1 : (x.a == c) = false := by simpa using ha
              have t3 : decide (c < x.a) = true := by simpa using hbb
              have HN : Hid (G d0 l = (os ++ [⟨c, y, n⟩] ++ [x]) ++ G true (l.drop (j + 1))) := by unfold Hid; rw [HD.out, GL hlt3, app2]
              clear ha hbb hlt3
              clear hk GS GK GL HD HE GLen
              have hm3 : Hid ((os ++ [(⟨c, y, n⟩ : STri)]).length = m + 1) := by unfold Hid; rw [List.length_append, hm.out]; rfl
              have hfree : Hid (h' wr.heap.size = none) := hu.sub.free (Nat.le_refl _)
              go_wp2_with (first | (at_builtin; refine wpList_app1f (h := h') (xs := os) (y := ⟨c, y, n⟩) Try.underlying28 info_bucket (by rfl) (by rfl) rfl m 1 (by rfl) (by rfl) hm.out ho (hu.sub.of_below (by repeat (first | exact Below.refl _ _ | apply Below.drew | refine Below.alloc ?_ (by simp) _))) (heap_new_at (by simp)) rfl (by omega) (by omega) ?_; intro C' cap' w1 h1 ho1 hu1; have k0 : w1.cell? ⟨wr.heap.size, 0, none⟩ = some (.int .i64 x.a) := hu1.cell (by simp) hfree.out; have k1 : w1.cell? ⟨wr.heap.size, 1, none⟩ = some (.int .i64 x.b) := hu1.cell (by simp) hfree.out; have k2 : w1.cell? ⟨wr.heap.size, 2, none⟩ = some (.int .i64 x.c) := hu1.cell (by simp) hfree.out) | (at_builtin; refine wpList_app1f (h := h1) (xs := os ++ [⟨c, y, n⟩]) (y := x) Try.underlying28 info_bucket (by rfl) (by rfl) rfl (m + 1) 1 (by rfl) (by rfl) hm3.out ho1 (hu1.sub.of_below (by repeat (first | exact Below.refl _ _ | apply Below.drew | refine Below.alloc ?_ (by simp) _))) (heap_new_at (by simp)) rfl (by omega) (by omega) ?_; intro C2 cap2 w2 h2 ho2 hu2))
              go_roundw
              case rel => exact ⟨j + 1, cap2, m + 1 + 1, true, C2, h2, os ++ [⟨c, y, n⟩] ++ [x], by omega, by go_num, rfl, rfl, by unfold Hid; rw [List.length_append, hm3.out]; rfl, HN, by omega, ho2, (hu.trans (hu1.before (by repeat (first | exact Below.refl _ _ | apply Below.drew | refine Below.alloc ?_ (by simp) _)))).trans (hu2.before (by repeat (first | exact Below.refl _ _ | apply Below.drew | refine Below.alloc ?_ (by simp) _)))⟩
              case measure => simp [intOf]; omega
          · by_cases ha : x.a = c
            · have hbb : x.b < y := by
                have : x.b ≠ y := fun e => hk ⟨ha, e⟩
                omega
              have t1 : (x.a == c) = true := by simpa using ha
              have t2 : (x.b == y) = false := by simp; omega
              have t3 : decide (c < x.a) = false := by simp; omega
              have t4 : decide (y < x.b) = false := by simp; omega
              have HN : Hid (G d0 l = (os ++ [x]) ++ G false (l.drop (j + 1))) := by unfold Hid; rw [HD.out, GK hk (.inr hlt3), app1]
              clear ha hbb hlt3
              clear hk GS GK GL HD HE GLen
              go_wp2_with (at_builtin; refine wpList_app1f (h := h') (xs := os) (y := x) Try.underlying28 info_bucket (by rfl) (by rfl) rfl m 1 (by rfl) (by rfl) hm.out ho (hu.sub.of_below (by repeat (first | exact Below.refl _ _ | apply Below.drew | refine Below.alloc ?_ (by simp) _))) (heap_new_at (by simp)) rfl (by omega) (by omega) ?_; intro C' cap' w1 h1 ho1 hu1)
              go_roundw
              case rel => exact ⟨j + 1, cap', m + 1, false, C', h1, os ++ [x], by omega, by go_num, rfl, rfl, by unfold Hid; rw [List.length_append, hm.out]; rfl, HN, by omega, ho1, hu.trans (hu1.before (by repeat (first | exact Below.refl _ _ | apply Below.drew | refine Below.alloc ?_ (by simp) _)))⟩
              case measure => simp [intOf]; omega
            · have hbb : x.a < c := by omega
              have t1 : (x.a == c) = false := by simpa using ha
              have t3 : decide (c < x.a) = false := by simp; omega
              have HN : Hid (G d0 l = (os ++ [x]) ++ G false (l.drop (j + 1))) := by unfold Hid; rw [HD.out, GK hk (.inr hlt3), app1]
              clear ha hbb hlt3
              clear hk GS GK GL HD HE GLen
              go_wp2_with (at_builtin; refine wpList_app1f (h := h') (xs := os) (y := x) Try.underlying28 info_bucket (by rfl) (by rfl) rfl m 1 (by rfl) (by rfl) hm.out ho (hu.sub.of_below (by repeat (first | exact Below.refl _ _ | apply Below.drew | refine Below.alloc ?_ (by simp) _))) (heap_new_at (by simp)) rfl (by omega) (by omega) ?_; intro C' cap' w1 h1 ho1 hu1)
              go_roundw
              case rel => exact ⟨j + 1, cap', m + 1, false, C', h1, os ++ [x], by omega, by go_num, rfl, rfl, by unfold Hid; rw [List.length_append, hm.out]; rfl, HN, by omega, ho1, hu.trans (hu1.before (by repeat (first | exact Below.refl _ _ | apply Below.drew | refine Below.alloc ?_ (by simp) _)))⟩
              case measure => simp [intOf]; omega
    · obtain rfl : j = l.length := by omega
      rw [List.drop_length] at hg
      have hcr := (hu.below.cell (p := ⟨b, 0, none⟩) hlt).trans hc
      have hfr := (hu.below.frozen (p := ⟨b, 0, none⟩) hlt).trans hf
      have hfree : Hid (h' b = none) := hu.new_none hlt
      cases dn with
      | true =>
        have HN : Hid (setB l c y n = os) := by unfold Hid; rw [HG.out, hg.out, (HE true).out, if_pos rfl, List.append_nil]
        clear GS GK GL HE GLen hg HG
        go_wp2
        obtain ⟨UF, hn3⟩ := Upd.field (v := .slice C m cap) 0 hb hs (Hp.none_le _) hu
        go_end0
        exact ⟨rfl, _, ⟨_, Hp.put_self, C, cap, by rw [HN.out, hm.out]; rfl, by rw [Hp.put_del hn3, HN.out]; exact ho⟩, UF⟩
      | false =>
        have HN : Hid (setB l c y n = os ++ [⟨c, y, n⟩]) := by unfold Hid; rw [HG.out, hg.out, (HE false).out, if_neg (by decide)]
        clear GS GK GL HE GLen hg HG
        go_wp2_with (at_builtin; refine wpList_app1f (h := h') (xs := os) (y := ⟨c, y, n⟩) Try.underlying28 info_bucket (by rfl) (by rfl) rfl m 1 (by rfl) (by rfl) hm.out ho (hu.sub.of_below (by repeat (first | exact Below.refl _ _ | apply Below.drew | refine Below.alloc ?_ (by simp) _))) (heap_new_at (by simp)) rfl (by omega) (by omega) ?_; intro C' cap' w1 h1 ho1 hu1; have g0 : w1.cell? ⟨b, 0, none⟩ = some (.slice A l.length ca) := hu1.cell ((cell_alloc (Nat.lt_of_lt_of_le hlt hu.size)).trans hcr) hfree.out; have gf : w1.frozen? ⟨b, 0, none⟩ = false := (hu1.frozen (p := ⟨b, 0, none⟩) (by simp; exact Nat.lt_of_lt_of_le hlt (Nat.le_trans hu.size (Nat.le_succ _))) hfree.out).trans ((frozen_alloc (Nat.lt_of_lt_of_le hlt hu.size)).trans hfr))
        obtain ⟨UF, hn3⟩ := Upd.field (v := .slice C' (m + 1) cap') 0 hb hs (Hp.none_le _) (hu.trans (hu1.before (by repeat (first | exact Below.refl _ _ | apply Below.drew | refine Below.alloc ?_ (by simp) _))))
        go_end0
        exact ⟨rfl, _, ⟨_, Hp.put_self, C', cap', by rw [HN.out, List.length_append, hm.out]; rfl, by rw [Hp.put_del hn3, HN.out]; exact ho1⟩, UF⟩
end Go.Proofs.Ythcapomobidnbaa
end
section
/- The walks of the reference's register: Copy, Move. -/
namespace Go.Proofs.Ythcapomobidnbaa
open Go.RowKit Go.Sl
set_option maxHeartbeats 2000000
set_option maxRecDepth 100000
theorem refCopyReg_calls (b : Nat) (l : List STri) (h : Hp) (w : World) (hs : h.sub w) (hp : Pt kReg 30 h b l) (hl : l.length ≤ 1000) :
    Calls Try.prog 67 #[.pointer (some ⟨b, 0, none⟩)] w fun e w' => ∃ h' b', e = .returned (.pointer (some ⟨b', 0, none⟩)) ∧ Pt kReg 30 h' b' l ∧ Upd Hp.none h' w w' := by
  obtain ⟨A, ca, hc, sx⟩ := hp.reg hs
  go_enter Try.func67, Try.ntmps67
  go_wp2_with (at_builtin; refine wpList_clone (B := none) Try.underlying28 info_bucket (by rfl) (by rfl) rfl l.length ca (by rfl) (by rfl) rfl kTri_flat sx hs (by omega) (by omega) ?_; intro C' cap' w1 h1 ho1 hu1)
  go_ret
  exact ⟨_, _, rfl, ⟨_, Hp.put_self, C', cap', rfl, by rw [Hp.put_del (hu1.sub.free (Nat.le_refl _))]; exact ho1⟩, hu1.put⟩
def MoveAns (b : Nat) (l : List STri) (c y n : Int) (h : Hp) (w : World) (e : Ending) (w' : World) : Prop :=
  ∃ h', e = .returned (.int .i64 (moveE l c y n)) ∧ Pt kReg 30 h' b (moveR l c y n) ∧ Upd h h' w w'
theorem MoveAns.no {b : Nat} {l : List STri} {c y n : Int} {h : Hp} {w w' : World} {E : Int} (hE : moveE l c y n = E) (h0 : E ≠ 0) (hp : Pt kReg 30 h b l) (hs : h.sub w) (hb : Below w.heap.size w w') :
    MoveAns b l c y n h w (.returned (.int .i64 E)) w' :=
  ⟨h, by rw [hE], by unfold moveR; rw [hE, if_neg h0]; exact hp, ⟨hb.os, hb.tape, hb.output, hb.size, fun q hq _ => hb.block q hq, hs.of_below hb, fun _ hq => .inl hq⟩⟩
theorem refMove_calls (b : Nat) (l : List STri) (c y n : Int) (h : Hp) (w : World) (hs : h.sub w) (hp : Pt kReg 30 h b l) (g : GoodR l) :
    Calls Try.prog 41 #[.pointer (some ⟨b, 0, none⟩), .int .i64 c, .int .i64 y, .int .i64 n] w (MoveAns b l c y n h w) := by
  obtain ⟨A, ca, hc, sx⟩ := hp.reg hs
  have hlt := World.block_lt_of_cell? w _ hc
  have hlen := g.len
  have BC := fun W : World => refBucket_calls c y W
  have MC := fun W : World => refMoney_calls n W
  cases hb : bucketOk c y with
  | false =>
    have HE : Hid (moveE l c y n = 1) := by unfold Hid moveE; rw [if_pos (by simp [hb])]
    rw [hb] at BC
    clear hb MC
    go_enter Try.func41, Try.ntmps41
    go_wp2_with (go_at_call 66; refine (BC _).mono ?_; rintro e w' ⟨rfl, rfl⟩)
    go_ret
    exact .no HE.out (by decide) hp hs (Below.refl _ _)
  | true =>
  cases hm : money n with
  | false =>
    have HE : Hid (moveE l c y n = 1) := by unfold Hid moveE; rw [if_pos (by simp [hm])]
    rw [hb] at BC
    rw [hm] at MC
    clear hb hm
    go_enter Try.func41, Try.ntmps41
    go_wp2_with (first
      | (go_at_call 66; refine (BC _).mono ?_; rintro e w' ⟨rfl, rfl⟩)
      | (go_at_call 49; refine (MC _).mono ?_; rintro e w' ⟨rfl, rfl⟩))
    go_ret
    exact .no HE.out (by decide) hp hs (Below.refl _ _)
  | true =>
  have hm' : -100000000000 ≤ n ∧ n ≤ 100000000000 := by simpa [money] using hm
  have hg := g.get c y
  have hsu := g.sum
  have GC := fun (W : World) (hW : Below w.heap.size w W) => refGet_calls b A ca l c y h W (hs.of_below hW) ((hW.cell (p := ⟨b, 0, none⟩) hlt).trans hc) sx
  have TC := fun (W : World) (hW : Below w.heap.size w W) => refTotal_calls b A ca l h W (hs.of_below hW) ((hW.cell (p := ⟨b, 0, none⟩) hlt).trans hc) sx (by omega) (mem_len g.mon)
  have CC := fun (W : World) (hW : Below w.heap.size w W) => refCopyReg_calls b l h W (hs.of_below hW) hp (by omega)
  have HM : Hid (moveE l c y n = if (money (getB l c y + n) && money (sumC l + n)) = false then 6 else if 12 < (setB l c y (getB l c y + n)).length then 5 else 0) := by
    unfold Hid moveE; rw [if_neg (by simp [hb, hm])]
  have HR : Hid (moveE l c y n = 0 → moveR l c y n = setB l c y (getB l c y + n)) := fun h => by unfold moveR; rw [if_pos h]
  have SC := fun (b' : Nat) (k : Hp) (W : World) (ks : k.sub W) (kp : Pt kReg 30 k b' l) => refSet_calls b' l c y (getB l c y + n) k W ks kp (by omega) g.rise
  rw [hb] at BC
  rw [hm] at MC
  clear hb hm
  generalize getB l c y = v at *
  generalize sumC l = s at *
  generalize setB l c y (v + n) = L at *
  have M1 := fun W : World => refMoney_calls (v + n) W
  have M2 := fun W : World => refMoney_calls (s + n) W
  cases h1 : money (v + n) with
  | false =>
    have HE : Hid (moveE l c y n = 6) := by unfold Hid; rw [HM.out, h1]; rfl
    rw [h1] at M1
    clear h1 HM HR SC M2 TC CC
    go_enter Try.func41, Try.ntmps41
    go_wp2_with fail
    refine (BC _).mono ?_
    rintro e w' ⟨rfl, rfl⟩
    go_wp2_with fail
    refine (MC _).mono ?_
    rintro e w' ⟨rfl, rfl⟩
    go_wp2_with fail
    refine (GC _ (Below.refl _ _)).mono ?_
    rintro e w1 ⟨rfl, b1⟩
    go_wp2_with fail
    refine (M1 _).mono ?_
    rintro e w' ⟨rfl, rfl⟩
    go_wp2
    go_ret
    exact .no HE.out (by decide) hp hs b1
  | true =>
  cases h2 : money (s + n) with
  | false =>
    have HE : Hid (moveE l c y n = 6) := by unfold Hid; rw [HM.out, h1, h2]; rfl
    rw [h1] at M1
    rw [h2] at M2
    clear h1 h2 HM HR SC CC
    go_enter Try.func41, Try.ntmps41
    go_wp2_with fail
    refine (BC _).mono ?_
    rintro e w' ⟨rfl, rfl⟩
    go_wp2_with fail
    refine (MC _).mono ?_
    rintro e w' ⟨rfl, rfl⟩
    go_wp2_with fail
    refine (GC _ (Below.refl _ _)).mono ?_
    rintro e w1 ⟨rfl, b1⟩
    go_wp2_with fail
    refine (M1 _).mono ?_
    rintro e w' ⟨rfl, rfl⟩
    go_wp2_with fail
    refine (TC _ b1).mono ?_
    rintro e w2 ⟨rfl, b2⟩
    have b12 := b1.trans (b2.mono b1.size)
    go_wp2_with fail
    refine (M2 _).mono ?_
    rintro e w' ⟨rfl, rfl⟩
    go_wp2
    go_ret
    exact .no HE.out (by decide) hp hs b12
  | true =>
  have HM2 : Hid (moveE l c y n = if 12 < L.length then 5 else 0) := by unfold Hid; rw [HM.out, h1, h2]; rfl
  rw [h1] at M1
  rw [h2] at M2
  clear h1 h2 HM
  go_enter Try.func41, Try.ntmps41
  go_wp2_with fail
  refine (BC _).mono ?_
  rintro e w' ⟨rfl, rfl⟩
  go_wp2_with fail
  refine (MC _).mono ?_
  rintro e w' ⟨rfl, rfl⟩
  go_wp2_with fail
  refine (GC _ (Below.refl _ _)).mono ?_
  rintro e w1 ⟨rfl, b1⟩
  go_wp2_with fail
  refine (M1 _).mono ?_
  rintro e w' ⟨rfl, rfl⟩
  go_wp2_with fail
  refine (TC _ b1).mono ?_
  rintro e w2 ⟨rfl, b2⟩
  have b12 := b1.trans (b2.mono b1.size)
  go_wp2_with fail
  refine (M2 _).mono ?_
  rintro e w' ⟨rfl, rfl⟩
  go_wp2_with fail
  refine (CC _ b12).mono ?_
  rintro e w3 ⟨h3, b3, rfl, p3, u3⟩
  have b13 := b12.trans (u3.below.mono b12.size)
  go_wp2_with fail
  refine (GC _ b13).mono ?_
  rintro e w4 ⟨rfl, b4⟩
  have b14 := b13.trans (b4.mono b13.size)
  go_wp2_with fail
  refine (SC b3 h3 w4 (u3.sub.of_below b4) p3).mono ?_
  rintro e w5 ⟨h5, rfl, ⟨cs5, k5, A5, c5, rfl, o5⟩, u5⟩
  have u35 : Upd Hp.none h5 w w5 := ((u3.before b12).after b4).trans u5
  have k5w := u35.sub _ _ k5
  have g5 : w5.cell? ⟨b3, 0, none⟩ = some (.slice A5 L.length c5) := by rw [cell_of_row w5 b3 0 _ _ _ k5w]; rfl
  clear k5w
  have m5 := o5.small
  by_cases h12 : 12 < L.length
  · have HE : Hid (moveE l c y n = 5) := by unfold Hid; rw [HM2.out, if_pos h12]
    have h12b : decide ((12 : Int) < (L.length : Int)) = true := by simp; omega
    clear h12 HR HM2
    go_wp2
    go_ret
    exact .no HE.out (by decide) hp hs u35.below
  · have HE : Hid (moveE l c y n = 0) := by unfold Hid; rw [HM2.out, if_neg h12]
    have h12b : decide ((12 : Int) < (L.length : Int)) = false := by simp; omega
    have HL := Lib.hid (HR.out HE.out)
    have gb : w5.cell? ⟨b, 0, none⟩ = some (.slice A l.length ca) := (u35.below.cell (p := ⟨b, 0, none⟩) hlt).trans hc
    obtain ⟨cs0, hb0, A0, ca0, rfl, ow0⟩ := hp
    have gf : w5.frozen? ⟨b, 0, none⟩ = false := (u35.below.frozen (p := ⟨b, 0, none⟩) hlt).trans (frozen_of_row w b 0 _ _ (hs b _ hb0))
    clear h12 HR HM2
    go_wp2
    obtain ⟨UF, hn3⟩ := Upd.field (v := .slice A5 L.length c5) 0 hb0 hs (Hp.none_le _) (u35.weaken (Hp.del_le h5 b3))
    go_ret
    exact ⟨_, by rw [HE.out]; rfl, ⟨_, Hp.put_self, A5, c5, by rw [HL.out]; rfl, by rw [Hp.put_del hn3, HL.out]; exact o5⟩, UF⟩
end Go.Proofs.Ythcapomobidnbaa
end
