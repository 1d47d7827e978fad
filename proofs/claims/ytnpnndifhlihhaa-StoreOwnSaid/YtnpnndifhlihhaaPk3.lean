/- Walks and plain facts that the laws of this seat share, part 3: contracts of functions, each said at its theorem. -/
import Derived.Test.YtnpnndifhlihhaaPk2
section
/- The law StoreTurns, plain facts and walk. -/
namespace Go.Sl
open Go.RowKit Go.Proofs.Ytnpnndifhlihhaa
theorem mergeTo_reverse {z : List SItem} (hb : ∀ x ∈ z, -100000000000 ≤ x.amt ∧ x.amt ≤ 100000000000) (hs : ∀ a, -100000000000 ≤ accSum a z ∧ accSum a z ≤ 100000000000) : ∀ n, mergeTo (reverseL z) n = reverseL (mergeTo z n)
  | 0 => rfl
  | n + 1 => by
    have h1 := accSum_reverse hb (n + 1)
    have h2 := wrapNeg (hs (n + 1))
    by_cases h0 : accSum (n + 1) z = 0
    · rw [mergeTo_no h0, mergeTo_no (by rw [h1, h0]; rfl), mergeTo_reverse hb hs n]
    · rw [mergeTo_yes h0, mergeTo_yes (by rw [h1]; omega), mergeTo_reverse hb hs n, h1]
      simp [reverseL, h2]
theorem Fine.reverse {xs : List SItem} (f : Fine xs) : Fine (reverseL xs) := by
  have hb : ∀ x ∈ xs, -100000000000 ≤ x.amt ∧ x.amt ≤ 100000000000 := fun x hx => by have := f.small x hx; omega
  have hm : ∀ y ∈ reverseL xs, ∃ x ∈ xs, y.kind = x.kind ∧ y.amt = -x.amt := fun y hy => by
    obtain ⟨x, hx, rfl⟩ := List.mem_map.1 hy
    exact ⟨x, hx, rfl, wrapNeg (hb x hx)⟩
  have hz : ∀ zs : List SItem, (∀ x ∈ zs, -100000000000 ≤ x.amt ∧ x.amt ≤ 100000000000) → sumAmt (reverseL zs) = -sumAmt zs := fun zs => by
    induction zs with
    | nil => intro _; rfl
    | cons z zs ih =>
      intro h
      have h1 := ih fun y hy => h y (by simp [hy])
      have h2 := wrapNeg (h z (by simp))
      simp only [reverseL, sumAmt, List.map_cons, List.sum_cons] at h1 ⊢
      rw [h1, h2]; omega
  refine ⟨?_, fun y hy => ?_, by simpa [reverseL] using f.len, fun y hy => ?_, fun y hy => ?_, ?_⟩
  · unfold merge; rw [mergeTo_reverse hb (fun a => by have := f.acc a; omega)]; show reverseL (merge xs) = _; rw [f.merged]
  · obtain ⟨x, hx, e1, _⟩ := hm y hy; rw [e1]; exact f.kinds x hx
  · obtain ⟨x, hx, _, e2⟩ := hm y hy; have := f.small x hx; omega
  · obtain ⟨x, hx, _, e2⟩ := hm y hy; have := f.none x hx; omega
  · rw [hz xs hb, f.zero]; rfl
namespace Turns
def x : ByteArray := ⟨#[120]⟩
def y : ByteArray := ⟨#[121]⟩
theorem xx : x.toList = [120] := by unfold x; rw [tl_data]
theorem yy : y.toList = [121] := by unfold y; rw [tl_data]
def J1 (p : Int) (a : List SItem) : SJ := ⟨1, x, p, 1, 0, a⟩
def J2 (p : Int) (b : List SItem) : SJ := ⟨2, x, p + 1, 1, 0, b⟩
def J3 (p : Int) (a : List SItem) : SJ := ⟨3, x, p, 2, 1, reverseL a⟩
variable {p : Int} {a b : List SItem}
theorem s1 (fa : Fine a) (k u : Int) (h : p ≤ u) : share x k u (J1 p a) = accSum k a := (share_in (x := J1 p a) rfl h).trans (fa.net k)
theorem s2 (fb : Fine b) (k u : Int) (h : p + 1 ≤ u) : share x k u (J2 p b) = accSum k b := (share_in (x := J2 p b) rfl h).trans (fb.net k)
theorem s3 (fa : Fine a) (k u : Int) (h : p ≤ u) : share x k u (J3 p a) = -accSum k a := 
  (share_in (x := J3 p a) rfl h).trans <| (fa.reverse.net k).trans (accSum_reverse (fun x hx => by have := fa.small x hx; omega) k)
theorem late (k : Int) : share x k p (J2 p b) = 0 := share_late (show p < p + 1 by omega)
theorem o1 (k u : Int) : share y k u (J1 p a) = 0 := share_out (by rw [yy]; show x.toList ≠ _; rw [xx]; decide)
theorem o2 (k u : Int) : share y k u (J2 p b) = 0 := share_out (by rw [yy]; show x.toList ≠ _; rw [xx]; decide)
theorem o3 (k u : Int) : share y k u (J3 p a) = 0 := share_out (by rw [yy]; show x.toList ≠ _; rw [xx]; decide)
theorem money_of {n : Int} (h : -100000000000 ≤ n ∧ n ≤ 100000000000) : money n = true := by simpa [money] using h
theorem e1 (fa : Fine a) (hp : 0 ≤ p ∧ p ≤ 398) : postE [] x p 1 0 a = 0 :=
  postE_prov (by rw [xx]; decide) (by omega) fa.checkE (by decide) (fun z hz => by rw [balance_nil]; have := fa.small z hz; exact money_of (by omega))
theorem e2 (fa : Fine a) (fb : Fine b) (hp : 0 ≤ p ∧ p ≤ 398) : postE [J1 p a] x (p + 1) 1 0 b = 0 :=
  postE_prov (by rw [xx]; decide) (by omega) fb.checkE (by simp) (fun z hz => by
    have h1 := fb.small z hz
    have h2 := fa.acc z.kind
    simp only [balance, List.map_cons, List.map_nil, List.sum_cons, List.sum_nil, s1 (p := p) fa z.kind 399 (by omega)]
    exact money_of (by omega))
theorem t1 (fa : Fine a) : trial [J1 p a, J2 p b] x p = a := by
  rw [trial_merge (z := a) fun k _ _ => ?_, fa.merged]
  simp only [balance, List.map_cons, List.map_nil, List.sum_cons, List.sum_nil, s1 (p := p) fa k p (by omega), late]; omega
theorem t2 (fa : Fine a) (fb : Fine b) (hp : 0 ≤ p ∧ p ≤ 398) : trial [J1 p a, J2 p b] x 399 = mergeF (a ++ b) := by
  have hf : fewB (a ++ b) = true := few_of (by have := fa.len; have := fb.len; simp; omega) (fun z hz => by
    rcases List.mem_append.1 hz with h | h
    · exact fa.money z h
    · exact fb.money z h)
  unfold mergeF
  rw [if_pos hf]
  refine trial_merge fun k _ _ => ?_
  simp only [balance, List.map_cons, List.map_nil, List.sum_cons, List.sum_nil, s1 (p := p) fa k 399 (by omega), s2 (p := p) fb k 399 (by omega), accSum_append]; omega
theorem find1 : revX [J1 p a, J2 p b] 1 = some (J1 p a) := rfl
theorem r1 (hp : 0 ≤ p ∧ p ≤ 398) {xs : List SItem} : postE [J1 p a, J2 p b] y p 2 1 xs = 3 :=
  postE_lines (argsBad_rev (by rw [yy]; decide) (by omega)) (linesE_rev (by unfold revE; rw [find1]; show (if badX _ _ _ = true then _ else _) = _; rw [if_pos]; simp [badX, J1, xx, yy]) (by decide)) (by decide)
theorem r2 (hp : 0 ≤ p ∧ p ≤ 398) {xs : List SItem} : postE [J1 p a, J2 p b] x (p + 1) 2 1 xs = 3 :=
  postE_lines (argsBad_rev (by rw [xx]; decide) (by omega)) (linesE_rev (by unfold revE; rw [find1]; show (if badX _ _ _ = true then _ else _) = _; rw [if_pos]; simp [badX, J1]; omega) (by decide)) (by decide)
theorem r3 (hp : 0 ≤ p ∧ p ≤ 398) {xs : List SItem} : postE [J1 p a, J2 p b] x p 2 9 xs = 3 :=
  postE_lines (argsBad_rev (by rw [xx]; decide) (by omega)) (linesE_rev rfl (by decide)) (by decide)
theorem r4 (fa : Fine a) (fb : Fine b) (hp : 0 ≤ p ∧ p ≤ 398) : postE [J1 p a, J2 p b] x p 2 1 (reverseL a) = 0 :=
  postE_good (argsBad_rev (by rw [xx]; decide) (by omega)) (linesE_revOk (x := J1 p a) (by unfold revE; rw [find1]; show (if badX _ _ _ = true then _ else _) = _; rw [if_neg (by simp [badX, J1])]; rfl) rfl fa.reverse.checkE rfl) (by simp) (fun z hz => by
    have h1 := fa.reverse.small z hz
    have h2 := fa.acc z.kind
    have h3 := fb.acc z.kind
    simp only [balance, List.map_cons, List.map_nil, List.sum_cons, List.sum_nil, s1 (p := p) fa z.kind 399 (by omega), s2 (p := p) fb z.kind 399 (by omega)]
    exact money_of (by omega))
theorem r5 (hp : 0 ≤ p ∧ p ≤ 398) {xs : List SItem} : postE [J1 p a, J2 p b, J3 p a] x p 2 1 xs = 4 :=
  postE_lines (argsBad_rev (by rw [xx]; decide) (by omega)) (linesE_rev (by
    have hf : revX [J1 p a, J2 p b, J3 p a] 1 = some (J1 p a) := rfl
    unfold revE; rw [hf]; show (if badX _ _ _ = true then _ else _) = _; rw [if_neg (by simp [badX, J1])]; rfl) (by decide)) (by decide)
theorem r6 (hp : 0 ≤ p ∧ p ≤ 398) {xs : List SItem} : postE [J1 p a, J2 p b, J3 p a] x p 2 3 xs = 3 :=
  postE_lines (argsBad_rev (by rw [xx]; decide) (by omega)) (linesE_rev (by
    have hf : revX [J1 p a, J2 p b, J3 p a] 3 = some (J3 p a) := rfl
    unfold revE; rw [hf]; show (if badX _ _ _ = true then _ else _) = _; rw [if_pos (by simp [badX, J3])]) (by decide)) (by decide)
theorem t3 (fa : Fine a) : trial [J1 p a, J2 p b, J3 p a] x p = [] := trial_none fun k _ _ => by
  simp only [balance, List.map_cons, List.map_nil, List.sum_cons, List.sum_nil, s1 (p := p) fa k p (by omega), late, s3 (p := p) fa k p (by omega)]; omega
theorem t4 (fa : Fine a) (fb : Fine b) : trial [J1 p a, J2 p b, J3 p a] x (p + 1) = b := by
  rw [trial_merge (z := b) fun k _ _ => ?_, fb.merged]
  simp only [balance, List.map_cons, List.map_nil, List.sum_cons, List.sum_nil, s1 (p := p) fa k (p + 1) (by omega), s2 (p := p) fb k (p + 1) (by omega), s3 (p := p) fa k (p + 1) (by omega)]; omega
theorem t5 : trial [J1 p a, J2 p b, J3 p a] y 399 = [] := trial_none fun k _ _ => by
  simp only [balance, List.map_cons, List.map_nil, List.sum_cons, List.sum_nil, o1, o2, o3]; omega
end Turns
end Go.Sl
namespace Go.Proofs.Ytnpnndifhlihhaa
open Go.RowKit Go.Sl
set_option maxHeartbeats 4000000
set_option maxRecDepth 100000
theorem storeTurns_calls (A B D : Option Addr) (ca cb cd : Nat) (ks ams more : List Int) (p0 : Int) (h1 h2 h3 : Hp) (w : World) (hs1 : h1.sub w) (hs2 : h2.sub w) (hs3 : h3.sub w)
    (s1 : Sl kInt h1 A ca ks) (s2 : Sl kInt h2 B cb ams) (s3 : Sl kInt h3 D cd more) (w2 : ∀ n ∈ ams, I64 n) (w3 : ∀ n ∈ more, I64 n) :
    Calls Try.prog 12 #[.slice A ks.length ca, .slice B ams.length cb, .slice D more.length cd, .int .i64 p0] w fun e w' => e = .returned (.bool true) ∧ Below w.heap.size w w' := by
  have E0 := Env.start w
  have r1 := within_lo p0 (n := 399) (by omega)
  have r2 := within_hi p0 (n := 399) (by omega)
  have CW := fun W : World => within_calls p0 399 W (by omega) (by omega)
  generalize within p0 399 = p at *
  obtain ⟨a, fa, RA⟩ : ∃ a, Fine a ∧ ∀ l W, Env w W l → Calls Try.prog 28 #[.slice A ks.length ca, .slice B ams.length cb] W fun e w' => ∃ C cap h', e = .returned (.slice C a.length cap) ∧ Ow kItem h' C cap a ∧ Env w w' (l ++ [h']) :=
    ⟨_, right_fine ks ams, fun l W E => Lin.right E hs1 hs2 s1 s2 w2⟩
  obtain ⟨b, fb, RB⟩ : ∃ b, Fine b ∧ ∀ l W, Env w W l → Calls Try.prog 28 #[.slice A ks.length ca, .slice D more.length cd] W fun e w' => ∃ C cap h', e = .returned (.slice C b.length cap) ∧ Ow kItem h' C cap b ∧ Env w w' (l ++ [h']) :=
    ⟨_, right_fine ks more, fun l W E => Lin.right E hs1 hs3 s1 s3 w3⟩
  have hp : 0 ≤ p ∧ p ≤ 398 := ⟨r1, by omega⟩
  have la := fa.len
  have lb := fb.len
  have e1 := Lib.hid (Turns.e1 fa hp)
  have e2 := Lib.hid (Turns.e2 fa fb hp)
  have t1 := Lib.hid (Turns.t1 (p := p) (b := b) fa)
  have t2 := Lib.hid (Turns.t2 fa fb hp)
  have q1 := fun xs => Lib.hid (Turns.r1 (p := p) (a := a) (b := b) hp (xs := xs))
  have q2 := fun xs => Lib.hid (Turns.r2 (p := p) (a := a) (b := b) hp (xs := xs))
  have q3 := fun xs => Lib.hid (Turns.r3 (p := p) (a := a) (b := b) hp (xs := xs))
  have q4 := Lib.hid (Turns.r4 fa fb hp)
  have q5 := fun xs => Lib.hid (Turns.r5 (p := p) (a := a) (b := b) hp (xs := xs))
  have q6 := fun xs => Lib.hid (Turns.r6 (p := p) (a := a) (b := b) hp (xs := xs))
  have t3 := Lib.hid (Turns.t3 (p := p) (b := b) fa)
  have t4 := Lib.hid (Turns.t4 (p := p) fa fb)
  have t5 := Lib.hid (Turns.t5 (p := p) (a := a) (b := b))
  clear hp hs1 hs2 hs3 s1 s2 s3 w2 w3 fa fb
  go_enter Try.func12, Try.ntmps12
  go_wp2_with fail
  refine (Sto.new E0).mono ?_
  rintro e w1 ⟨h0, s, rfl, S0, E1⟩
  try simp at E1
  go_wp2_with fail
  refine (CW _).mono ?_
  rintro e w' ⟨rfl, rfl⟩
  go_wp2_with fail
  refine (RA _ _ E1).mono ?_
  rintro e w2 ⟨CA, na, ha, rfl, oa, E2⟩
  try simp at E2
  go_wp2_with fail
  refine (RB _ _ E2).mono ?_
  rintro e w3 ⟨CB, nb, hb, rfl, ob, E3⟩
  try simp at E3
  go_wp2_with fail
  refine (S0.post_ok E3 0 rfl oa.sl (E3.sub 1 rfl) _ rfl e1.out 1 rfl).mono ?_
  rintro e w4 ⟨h4, rfl, S1', E4⟩
  try simp at E4
  have S1 : Sto h4 s [Turns.J1 p a] := S1'
  clear S1'
  go_wp2_with fail
  refine (S1.post_ok E4 0 rfl ob.sl (E4.sub 2 rfl) _ rfl e2.out 2 rfl).mono ?_
  rintro e w5 ⟨h5, rfl, S2', E5⟩
  try simp at E5
  have S2 : Sto h5 s [Turns.J1 p a, Turns.J2 p b] := S2'
  clear S2'
  go_wp2_with fail
  refine (S2.trial E5 0 rfl t1.out).mono ?_
  rintro e w6 ⟨C6, n6, h6, rfl, o6, E6⟩
  try simp at E6
  go_wp2_with fail
  refine (Lin.same E6 (E6.sub 3 rfl) (E6.sub 1 rfl) o6.sl oa.sl _ _ rfl rfl rfl).mono ?_
  rintro e w7 ⟨rfl, E7⟩
  try simp at E7
  go_wp2_with fail
  refine (S2.trial E7 0 rfl t2.out).mono ?_
  rintro e w8 ⟨C8, n8, h8, rfl, o8, E8⟩
  try simp at E8
  go_wp2_with fail
  refine (Lin.copy E8 (E8.sub 1 rfl) oa.sl _ rfl (by omega)).mono ?_
  rintro e w9 ⟨C9, n9, h9, rfl, o9, E9⟩
  try simp at E9
  go_wp2_with (at_builtin; refine wpList_appF Try.underlying36 info_line (by rfl) (by rfl) rfl a.length b.length nb (by rfl) (by rfl) rfl rfl kItem_flat o9 (E9.sub 5 rfl) ob.sl (E9.sub 2 rfl) (by omega) (by omega) ?_; intro C10 n10 w10 h10 o10 u10)
  have E10 := E9.upd 5 rfl u10
  go_wp2_with fail
  refine (Lin.merge E10 (E10.sub 5 rfl) o10.sl _ List.length_append rfl).mono ?_
  rintro e w11 ⟨C11, n11, h11, rfl, o11, E11⟩
  try simp at E11
  go_wp2_with fail
  refine (Lin.same E11 (E11.sub 4 rfl) (E11.sub 6 rfl) o8.sl o11.sl _ _ rfl rfl rfl).mono ?_
  rintro e w12 ⟨rfl, E12⟩
  try simp at E12
  have E12' : Env w w12 [h5, ha] := (((((E12.drop 6).drop 5).drop 4).drop 3).drop 2)
  have EB : hb.sub w12 := E12.sub 2 rfl
  clear E0 E1 E2 E3 E4 E5 E6 E7 E8 E9 E10 E11 o6 o8 o9 o10 o11 u10
  go_wp2_with fail
  refine (Lin.reverse E12 (E12.sub 1 rfl) oa.sl _ rfl (by omega)).mono ?_
  rintro e w13 ⟨C13, n13, h13, rfl, o13, E13⟩
  try simp at E13
  go_wp2_with fail
  refine (S2.post_no E13 0 rfl o13.sl (E13.sub 7 rfl) _ (by simp [reverseL]) (q1 _).out (by decide)).mono ?_
  rintro e w14 ⟨h14, rfl, S3, E14⟩
  try simp at E14
  go_wp2_with fail
  refine (Lin.reverse E14 (E14.sub 1 rfl) oa.sl _ rfl (by omega)).mono ?_
  rintro e w15 ⟨C15, n15, h15, rfl, o15, E15⟩
  try simp at E15
  go_wp2_with fail
  refine (S3.post_no E15 0 rfl o15.sl (E15.sub 8 rfl) _ (by simp [reverseL]) (q2 _).out (by decide)).mono ?_
  rintro e w16 ⟨h16, rfl, S4, E16⟩
  try simp at E16
  go_wp2_with fail
  refine (Lin.reverse E16 (E16.sub 1 rfl) oa.sl _ rfl (by omega)).mono ?_
  rintro e w17 ⟨C17, n17, h17, rfl, o17, E17⟩
  try simp at E17
  go_wp2_with fail
  refine (S4.post_no E17 0 rfl o17.sl (E17.sub 9 rfl) _ (by simp [reverseL]) (q3 _).out (by decide)).mono ?_
  rintro e w18 ⟨h18, rfl, S5, E18⟩
  try simp at E18
  go_wp2_with fail
  refine (Lin.reverse E18 (E18.sub 1 rfl) oa.sl _ rfl (by omega)).mono ?_
  rintro e w19 ⟨C19, n19, h19, rfl, o19, E19⟩
  try simp at E19
  go_wp2_with fail
  refine (S5.post_ok E19 0 rfl o19.sl (E19.sub 10 rfl) _ (by simp [reverseL]) q4.out 3 rfl).mono ?_
  rintro e w20 ⟨h20, rfl, S6', E20⟩
  try simp at E20
  have S6 : Sto h20 s [Turns.J1 p a, Turns.J2 p b, Turns.J3 p a] := S6'
  clear S6'
  go_wp2_with fail
  refine (Lin.reverse E20 (E20.sub 1 rfl) oa.sl _ rfl (by omega)).mono ?_
  rintro e w21 ⟨C21, n21, h21, rfl, o21, E21⟩
  try simp at E21
  go_wp2_with fail
  refine (S6.post_no E21 0 rfl o21.sl (E21.sub 11 rfl) _ (by simp [reverseL]) (q5 _).out (by decide)).mono ?_
  rintro e w22 ⟨h22, rfl, S7, E22⟩
  try simp at E22
  go_wp2_with fail
  refine (S7.post_no E22 0 rfl oa.sl (E22.sub 1 rfl) _ rfl (q6 _).out (by decide)).mono ?_
  rintro e w23 ⟨h23, rfl, S8, E23⟩
  try simp at E23
  clear E12 E13 E14 E15 E16 E17 E18 E19 E20 E21 E22 o13 o15 o17 o19 o21
  go_wp2_with fail
  refine (S8.trial E23 0 rfl t3.out).mono ?_
  rintro e w24 ⟨C24, n24, h24, rfl, o24, E24⟩
  try simp at E24
  go_wp2_with fail
  refine (S8.trial E24 0 rfl t4.out).mono ?_
  rintro e w25 ⟨C25, n25, h25, rfl, o25, E25⟩
  try simp at E25
  go_wp2_with fail
  refine (Lin.same E25 (E25.sub 13 rfl) (E25.sub 2 rfl) o25.sl ob.sl _ _ rfl rfl rfl).mono ?_
  rintro e w26 ⟨rfl, E26⟩
  try simp at E26
  go_wp2_with fail
  refine (S8.journals E26 0 rfl).mono ?_
  rintro e w27 ⟨C27, n27, h27, rfl, o27, E27⟩
  try simp at E27
  go_wp2_with fail
  refine (S8.trial E27 0 rfl t5.out).mono ?_
  rintro e w28 ⟨C28, n28, h28, rfl, o28, E28⟩
  try simp at E28
  go_wp2_with fail
  refine (wakes07 _).mono ?_
  rintro e w29 ⟨rfl, b29⟩
  go_wp2
  go_ret
  exact ⟨rfl, E28.low.trans (b29.mono E28.low.size)⟩
end Go.Proofs.Ytnpnndifhlihhaa
end
section
/- The law StoreOwn, plain facts and walk. -/
namespace Go.Sl
open Go.RowKit Go.Proofs.Ytnpnndifhlihhaa
namespace OwnL
open Errs (a b aa bb)
def J1 (x : List SItem) : SJ := ⟨1, a, 3, 1, 0, x⟩
def J2 (y : List SItem) : SJ := ⟨2, b, 1, 1, 0, y⟩
variable {x y : List SItem}
theorem ab : a.toList ≠ b.toList := by rw [aa, bb]; decide
theorem s1 (f : Fine x) (k u : Int) (h : 3 ≤ u) : share a k u (J1 x) = accSum k x := (share_in (x := J1 x) rfl h).trans (f.net k)
theorem s2 (f : Fine y) (k u : Int) (h : 1 ≤ u) : share b k u (J2 y) = accSum k y := (share_in (x := J2 y) rfl h).trans (f.net k)
theorem o1 (k u : Int) : share b k u (J1 x) = 0 := share_out (x := J1 x) ab
theorem o2 (k u : Int) : share a k u (J2 y) = 0 := share_out (x := J2 y) ab.symm
theorem late (k : Int) : share a k 2 (J1 x) = 0 := share_late (x := J1 x) (show (2 : Int) < 3 by decide)
theorem e1 (f : Fine x) : postE [] a 3 1 0 x = 0 :=
  postE_prov (by rw [aa]; decide) (by omega) f.checkE (by decide) (fun z hz => by rw [balance_nil]; have := f.small z hz; exact Turns.money_of (by omega))
theorem e2 (f : Fine y) : postE [J1 x] b 1 1 0 y = 0 :=
  postE_prov (by rw [bb]; decide) (by omega) f.checkE (by simp) (fun z hz => by
    have h1 := f.small z hz
    simp only [balance, List.map_cons, List.map_nil, List.sum_cons, List.sum_nil, o1]
    exact Turns.money_of (by omega))
theorem t9 (f : Fine x) : trial [J1 x, J2 y] a 9 = x := by
  rw [trial_merge (z := x) fun k _ _ => ?_, f.merged]
  simp only [balance, List.map_cons, List.map_nil, List.sum_cons, List.sum_nil, s1 f k 9 (by omega), o2]; omega
theorem t3 (f : Fine x) : trial [J1 x, J2 y] a 3 = x := by
  rw [trial_merge (z := x) fun k _ _ => ?_, f.merged]
  simp only [balance, List.map_cons, List.map_nil, List.sum_cons, List.sum_nil, s1 f k 3 (by omega), o2]; omega
theorem tb (f : Fine y) : trial [J1 x, J2 y] b 9 = y := by
  rw [trial_merge (z := y) fun k _ _ => ?_, f.merged]
  simp only [balance, List.map_cons, List.map_nil, List.sum_cons, List.sum_nil, s2 f k 9 (by omega), o1]; omega
theorem t2 : trial [J1 x, J2 y] a 2 = [] := trial_none fun k _ _ => by
  simp only [balance, List.map_cons, List.map_nil, List.sum_cons, List.sum_nil, late, o2]; omega
end OwnL
end Go.Sl
namespace Go.Proofs.Ytnpnndifhlihhaa
open Go.RowKit Go.Sl
set_option maxHeartbeats 4000000
set_option maxRecDepth 100000
theorem storeOwn_calls (A B D : Option Addr) (ca cb cd : Nat) (ks ams more : List Int) (h1 h2 h3 : Hp) (w : World) (hs1 : h1.sub w) (hs2 : h2.sub w) (hs3 : h3.sub w)
    (s1 : Sl kInt h1 A ca ks) (s2 : Sl kInt h2 B cb ams) (s3 : Sl kInt h3 D cd more) (w2 : ∀ n ∈ ams, I64 n) (w3 : ∀ n ∈ more, I64 n) :
    Calls Try.prog 10 #[.slice A ks.length ca, .slice B ams.length cb, .slice D more.length cd] w fun e w' => e = .returned (.bool true) ∧ Below w.heap.size w w' := by
  have E0 := Env.start w
  obtain ⟨a, fa, RA⟩ : ∃ a, Fine a ∧ ∀ l W, Env w W l → Calls Try.prog 28 #[.slice A ks.length ca, .slice B ams.length cb] W fun e w' => ∃ C cap h', e = .returned (.slice C a.length cap) ∧ Ow kItem h' C cap a ∧ Env w w' (l ++ [h']) :=
    ⟨_, right_fine ks ams, fun l W E => Lin.right E hs1 hs2 s1 s2 w2⟩
  obtain ⟨b, fb, RB⟩ : ∃ b, Fine b ∧ ∀ l W, Env w W l → Calls Try.prog 28 #[.slice A ks.length ca, .slice D more.length cd] W fun e w' => ∃ C cap h', e = .returned (.slice C b.length cap) ∧ Ow kItem h' C cap b ∧ Env w w' (l ++ [h']) :=
    ⟨_, right_fine ks more, fun l W E => Lin.right E hs1 hs3 s1 s3 w3⟩
  have la := fa.len
  have lb := fb.len
  have e1 := Lib.hid (OwnL.e1 fa)
  have e2 := Lib.hid (OwnL.e2 (x := a) fb)
  have t9 := Lib.hid (OwnL.t9 (y := b) fa)
  have t3 := Lib.hid (OwnL.t3 (y := b) fa)
  have tb := Lib.hid (OwnL.tb (x := a) fb)
  have t2 := Lib.hid (OwnL.t2 (x := a) (y := b))
  clear hs1 hs2 hs3 s1 s2 s3 w2 w3 fa fb
  go_enter Try.func10, Try.ntmps10
  go_wp2_with fail
  refine (Sto.new E0).mono ?_
  rintro e w1 ⟨h0, s, rfl, S0, E1⟩
  try simp at E1
  go_wp2_with fail
  refine (RA _ _ E1).mono ?_
  rintro e w2 ⟨CA, na, ha, rfl, oa, E2⟩
  try simp at E2
  go_wp2_with fail
  refine (RB _ _ E2).mono ?_
  rintro e w3 ⟨CB, nb, hb, rfl, ob, E3⟩
  try simp at E3
  go_wp2_with fail
  refine (Lin.copy E3 (E3.sub 1 rfl) oa.sl _ rfl (by omega)).mono ?_
  rintro e w4 ⟨CL, nl, hl, rfl, ol, E4⟩
  try simp at E4
  go_wp2_with fail
  refine (S0.post_ok E4 0 rfl ol.sl (E4.sub 3 rfl) _ rfl e1.out 1 rfl).mono ?_
  rintro e w5 ⟨h5, rfl, S1', E5⟩
  try simp at E5
  have S1 : Sto h5 s [OwnL.J1 a] := S1'
  clear S1' RA RB
  go_wp2
  go_loopw [42] (fun i wr => ∃ (j : Nat) (zs : List SItem) (hz : Hp), j ≤ a.length ∧ i = .int .i64 j ∧ Hid (zs.length = a.length) ∧ Ow kItem hz CL nl zs ∧ Env w wr [h5, ha, hb, hz]) (fun i _ => a.length - (intOf i).toNat)
  case atStart => exact ⟨0, a, hl, by omega, rfl, rfl, ol, E5⟩
  case round =>
    obtain ⟨j, zs, hz, hj, rfl, hzl, oz, E⟩ := hrel
    by_cases hlt : j < a.length
    · obtain ⟨x, hx⟩ := some_of_lt (show j < zs.length by rw [hzl.out]; exact hlt)
      obtain ⟨b1, o1, rfl, c1, c2⟩ := oz.sl.item (E.sub 3 rfl) hx
      have hf := oz.cell_free (E.sub 3 rfl) (lt_of_some hx.out)
      have i1 : (0 : Int) ≤ (j : Int) := by omega
      have i2 : (j : Int) < (a.length : Int) := by omega
      obtain ⟨g, og, ug⟩ := Ow.set (x' := ⟨x.kind, wrap64 (x.amt + 1)⟩) (v := .int .i64 (wrap64 (x.amt + 1))) (j := 1) oz (E.sub 3 rfl) hx.out (by decide) rfl
      have Eg := E.upd 3 rfl ug
      clear ug
      go_wp2
      go_roundw
      case rel => exact ⟨j + 1, _, g, by omega, by go_num, by unfold Hid; rw [List.length_set]; exact hzl.out, og, Eg⟩
      case measure => simp [intOf]; omega
    · obtain rfl : j = a.length := by omega
      clear hlt
      go_wp2_with fail
      refine (S1.post_ok E 0 rfl ob.sl (E.sub 2 rfl) _ rfl e2.out 2 rfl).mono ?_
      rintro e w6 ⟨h6, rfl, S2', E6⟩
      try simp at E6
      have S2 : Sto h6 s [OwnL.J1 a, OwnL.J2 b] := S2'
      clear S2' oz hzl
      go_wp2_with fail
      refine (S2.journals E6 0 rfl).mono ?_
      rintro e w7 ⟨CJ, nj, hj7, rfl, oJ, E7⟩
      try simp at E7
      have E8 : Env w w7 [h6, ha, hb, hj7] := E7.drop 3
      have hcap := oJ.le
      simp at hcap
      obtain ⟨ad, hCJ⟩ := oJ.some_of_lt (i := 0) (by simp)
      subst hCJ
      obtain ⟨bJ, oJ0, cur, EJ, e, hbJ, hszJ, hrow⟩ := oJ.row _ rfl (by omega)
      cases e
      obtain ⟨cs, ⟨AL, cL, rfl, oL⟩, hcs⟩ := hrow 0 (OwnL.J1 a) rfl
      obtain ⟨cs1, ⟨AL1, cL1, rfl, _⟩, hcs1⟩ := hrow 1 (OwnL.J2 b) rfl
      have k5 := hcs 5 _ rfl
      have k7 := hcs1 1 _ rfl
      clear hcs hrow oJ
      have k5' : cur[oJ0 + 5]? = some (.slice AL a.length cL) := by simpa [kJ, OwnL.J1] using k5
      have k7' : cur[oJ0 + 6 + 1]? = some (.string Errs.b) := by simpa [kJ, OwnL.J2] using k7
      clear k5 k7 hcs1
      have hbw := E8.sub 3 rfl _ _ hbJ
      have c5 : w7.cell? ⟨bJ, oJ0 + 5, none⟩ = some (.slice AL a.length cL) := by rw [cell_of_row w7 bJ _ cur EJ (0, 0) hbw]; exact k5'
      have i8 : ((2 : Nat) : Int) = 2 := rfl
      go_wp2
      go_loopw [72] (fun i wr => ∃ (j : Nat) (zs : List SItem) (hz : Hp), j ≤ a.length ∧ i = .int .i64 j ∧ Hid (zs.length = a.length) ∧ Ow kItem hz AL cL zs ∧ Hid (hz bJ = none) ∧ Env w wr [h6, ha, hb, hz.put bJ (.cells cur EJ (0, 0))]) (fun i _ => a.length - (intOf i).toNat)
      case atStart => exact ⟨0, a, hj7.del bJ, by omega, rfl, rfl, oL, Hp.del_self, by
        have : (hj7.del bJ).put bJ (.cells cur EJ (0, 0)) = hj7 := by
          funext q; simp only [Hp.put, Hp.del]; split
          · rename_i hq; rw [hq, hbJ]
          · rfl
        rw [this]; exact E8⟩
      case round =>
        obtain ⟨j, zs, hz, hj, rfl, hzl, oz, hzn, E⟩ := hrel
        have hbw := E.sub 3 rfl _ _ Hp.put_self
        have c5 : wr.cell? ⟨bJ, oJ0 + 5, none⟩ = some (.slice AL a.length cL) := by rw [cell_of_row wr bJ _ cur EJ (0, 0) hbw]; exact k5'
        have hz0 : ((hz.put bJ (.cells cur EJ (0, 0))).del bJ) = hz := Hp.put_del hzn.out
        have hzs : hz.sub wr := by rw [← hz0]; exact (E.sub 3 rfl).del bJ
        clear hbw
        by_cases hlt : j < a.length
        · obtain ⟨x, hx⟩ := some_of_lt (show j < zs.length by rw [hzl.out]; exact hlt)
          obtain ⟨b1, o1, rfl, c1, c2⟩ := oz.sl.item hzs hx
          have hf := oz.cell_free hzs (lt_of_some hx.out)
          have i1 : (0 : Int) ≤ (j : Int) := by omega
          have i2 : (j : Int) < (a.length : Int) := by omega
          obtain ⟨g, og, ug⟩ := Ow.set (x' := ⟨x.kind, wrap64 (x.amt - 1)⟩) (v := .int .i64 (wrap64 (x.amt - 1))) (j := 1) oz hzs hx.out (by decide) rfl
          obtain ⟨ug2, gn⟩ := Upd.rest (h := hz.put bJ (.cells cur EJ (0, 0))) Hp.put_self (E.sub 3 rfl) (by rw [hz0]; exact ug)
          have Eg := E.upd 3 rfl ug2
          have gn' : Hid (g bJ = none) := gn
          clear ug ug2 hz0 gn
          go_wp2
          go_roundw
          case rel => exact ⟨j + 1, _, g, by omega, by go_num, by unfold Hid; rw [List.length_set]; exact hzl.out, og, gn', Eg⟩
          case measure => simp [intOf]; omega
        · obtain rfl : j = a.length := by omega
          clear hlt hz0
          have f1 : wr.frozen? ⟨bJ, oJ0 + 6 + 1, none⟩ = false := frozen_of_row wr bJ _ cur EJ (E.sub 3 rfl _ _ Hp.put_self)
          have c7 : wr.cell? ⟨bJ, oJ0 + 6 + 1, none⟩ = some (.string Errs.b) := by rw [cell_of_row wr bJ _ cur EJ (0, 0) (E.sub 3 rfl _ _ Hp.put_self)]; exact k7'
          have E9 : Env w (wr.setCell ⟨bJ, oJ0 + 6 + 1, none⟩ (.string ⟨#[120]⟩)) [h6, ha, hb] := E.scratch 3 rfl (by rw [Hp.put_self]; simp)
          go_wp2_with fail
          refine (S2.trial E9 0 rfl t9.out).mono ?_
          rintro e w10 ⟨CT, nt, ht, rfl, ot, E10⟩
          try simp at E10
          go_wp2_with fail
          refine (Lin.same E10 (E10.sub 3 rfl) (E10.sub 1 rfl) ot.sl oa.sl _ _ rfl rfl rfl).mono ?_
          rintro e w11 ⟨rfl, E11⟩
          try simp at E11
          clear c5 c7 f1 k5' k7' E10 E9 E
          go_wp2
          go_loopw [98] (fun i wr => ∃ (j : Nat) (zs : List SItem) (hz : Hp), j ≤ a.length ∧ i = .int .i64 j ∧ Hid (zs.length = a.length) ∧ Ow kItem hz CT nt zs ∧ Env w wr [h6, ha, hb, hz]) (fun i _ => a.length - (intOf i).toNat)
          case atStart => exact ⟨0, a, ht, by omega, rfl, rfl, ot, E11⟩
          case round =>
            obtain ⟨j, zs, hz, hj, rfl, hzl, oz, E⟩ := hrel
            by_cases hlt : j < a.length
            · obtain ⟨x, hx⟩ := some_of_lt (show j < zs.length by rw [hzl.out]; exact hlt)
              obtain ⟨b1, o1, rfl, c1, c2⟩ := oz.sl.item (E.sub 3 rfl) hx
              have hf := oz.cell_free (E.sub 3 rfl) (lt_of_some hx.out)
              have i1 : (0 : Int) ≤ (j : Int) := by omega
              have i2 : (j : Int) < (a.length : Int) := by omega
              obtain ⟨g, og, ug⟩ := Ow.set (x' := ⟨x.kind, 0⟩) (v := .int .i64 0) (j := 1) oz (E.sub 3 rfl) hx.out (by decide) rfl
              have Eg := E.upd 3 rfl ug
              clear ug
              go_wp2
              go_roundw
              case rel => exact ⟨j + 1, _, g, by omega, by go_num, by unfold Hid; rw [List.length_set]; exact hzl.out, og, Eg⟩
              case measure => simp [intOf]; omega
            · obtain rfl : j = a.length := by omega
              clear hlt oz hzl
              have E12 : Env w wr [h6, ha, hb] := E.drop 3
              go_wp2_with fail
              refine (S2.journals E12 0 rfl).mono ?_
              rintro e w13 ⟨CM, nm, hm, rfl, om, E13⟩
              try simp at E13
              have oml := om.sl
              obtain ⟨b1, o1, B1, c1, rfl, sl1, d1, d2, d3, d4, d5, d6⟩ := oml.jou (E13.sub 3 rfl) (show Hid ([OwnL.J1 a, OwnL.J2 b][0]? = some (OwnL.J1 a)) from rfl)
              rw [Nat.zero_mul, Nat.add_zero] at d6
              have d6' : w13.cell? ⟨b1, o1 + 5, none⟩ = some (.slice B1 a.length c1) := d6
              have g1 := World.block_lt_of_cell? w13 _ d6'
              clear d1 d2 d3 d4 d5 d6
              go_wp2_with fail
              refine (Lin.same E13 (E13.sub 3 rfl) (E13.sub 1 rfl) sl1 oa.sl _ _ rfl rfl rfl).mono ?_
              rintro e w14 ⟨rfl, E14⟩
              try simp at E14
              obtain ⟨b2, o2, B2, c2, e2', sl2, f1, f2, f3, f4, f5, f6⟩ := oml.jou (E14.sub 3 rfl) (show Hid ([OwnL.J1 a, OwnL.J2 b][1]? = some (OwnL.J2 b)) from rfl)
              cases e2'
              rw [Nat.one_mul] at f2
              have f2' : w14.cell? ⟨b1, o1 + 6 + 1, none⟩ = some (.string ⟨#[98]⟩) := f2
              clear f1 f2 f3 f4 f5 f6 d6' g1
              go_wp2_with fail
              refine (S2.trial E14 0 rfl tb.out).mono ?_
              rintro e w15 ⟨C15, n15, h15, rfl, o15, E15⟩
              try simp at E15
              go_wp2_with fail
              refine (Lin.same E15 (E15.sub 4 rfl) (E15.sub 2 rfl) o15.sl ob.sl _ _ rfl rfl rfl).mono ?_
              rintro e w16 ⟨rfl, E16⟩
              try simp at E16
              go_wp2_with fail
              refine (S2.trial E16 0 rfl t3.out).mono ?_
              rintro e w17 ⟨C17, n17, h17, rfl, o17, E17⟩
              try simp at E17
              go_wp2_with fail
              refine (Lin.same E17 (E17.sub 5 rfl) (E17.sub 1 rfl) o17.sl oa.sl _ _ rfl rfl rfl).mono ?_
              rintro e w18 ⟨rfl, E18⟩
              try simp at E18
              go_wp2_with fail
              refine (S2.trial E18 0 rfl t2.out).mono ?_
              rintro e w19 ⟨C19, n19, h19, rfl, o19, E19⟩
              try simp at E19
              go_wp2_with fail
              refine (wakes07 _).mono ?_
              rintro e w20 ⟨rfl, b20⟩
              go_wp2
              go_ret
              exact ⟨rfl, E19.low.trans (b20.mono E19.low.size)⟩
end Go.Proofs.Ytnpnndifhlihhaa
end
