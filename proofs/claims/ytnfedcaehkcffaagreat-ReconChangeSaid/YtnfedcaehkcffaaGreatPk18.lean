/- Walks and plain facts that the laws of this seat share, part 18: contracts of functions, each said at its theorem. -/
import Derived.Test.YtnfedcaehkcffaaGreatPk17
import Derived.Deep.DeepCutAuto
set_option linter.all false
section
/- The walk of closing.Make, up to the losses' tax. -/
namespace Go.Proofs.YtnfedcaehkcffaaGreat
open Go.RowKit Go.Sl
set_option maxHeartbeats 2000000
set_option maxRecDepth 100000
set_option linter.unusedSimpArgs false
theorem regiRows_calls (b : Nat) (l : List STri) (h : Hp) (w : World) (hs : h.sub w) (S : Regi h b l) :
    Calls Tryz.prog 20 #[.pointer (some ⟨b, 0, none⟩)] w fun e w' => ∃ C cap h', e = .returned (.slice C l.length cap) ∧ Ow kTri h' C cap l ∧ Upd Hp.none h' w w' := by
  obtain ⟨r, hp, R⟩ := S
  refine (buckRows_calls b r h w hs hp R.dist (by have := R.len; have := R.good.len; omega)).mono ?_
  rintro _ _ ⟨C, cap, h', he, ho, u⟩
  rw [R.eq] at ho
  exact ⟨C, cap, h', by rw [← R.len]; exact he, ho, u⟩
theorem vntLeft_calls (b : Nat) (l : List STri) (h : Hp) (w : World) (hs : h.sub w) (S : Vnt h b l) :
    Calls Tryz.prog 19 #[.pointer (some ⟨b, 0, none⟩)] w fun e w' => e = .returned (.int .i64 (sumC l)) ∧ Below w.heap.size w w' :=
  vintLeft_calls b l h w hs S.pt (by have := S.good.len; omega) (fun x hx => by have := S.good.lo x hx; have := le_sumC S.good.lo hx; have := S.good.mon; omega)
theorem isB_eq (c y : Int) : isB c y = fun b : STri => b.a == c && b.b == y := by
  funext b
  show decide (b.a = c ∧ b.b = y) = _
  by_cases h1 : b.a = c <;> by_cases h2 : b.b = y <;> simp [h1, h2]
theorem oldOf_eq (o : SBal) : oldOf o = oldX o.xs o.rs := by
  funext w n
  unfold oldOf oldX
  rw [isB_eq]
  rfl
theorem was_of (o : SBal) (t : List SRate) (x : SInp) (v r : List STri) : (⟨t, x, o, v, r⟩ : SArg).was = wasOf t x.j x.per o.xs o.rs r := by
  unfold SArg.was
  rw [oldOf_eq]; rfl
theorem env_fuse2 {w0 w : World} {c a b : Hp} {l : List Hp} (E : Env w0 w (c :: a :: b :: l)) : ∃ h, a.le h ∧ b.le h ∧ Env w0 w (c :: h :: l) := by
  obtain ⟨h, l1, l2, E2⟩ := Env.fuse (E.perm (List.perm_middle (l₁ := [a, b]) (a := c) (l₂ := l)).symm)
  exact ⟨h, l1, l2, E2.swapTo⟩
theorem makeSub_calls (t : List SRate) (j : ByteArray) (per : Int) (xs : List STri) (rs : List Int) (rows : List STri) (A B R : Option Addr) (ca cb cr bp bt : Nat) (v2 v3 v4 v5 v6 v7 v8 v9 v12 v13 v14 v15 v16 v17 v19 v20 v21 v22 v23 v24 v25 v26 v27 v28 v29 v30 v31 v32 v33 v34 v35 v36 v37 v38 v39 v40 : Value) (ht ho hs hr : Hp) (w0 w : World) (L : List Hp) (b13 b5 : Nat) (c1 : w.cell? ⟨b13, 0, none⟩ = some (.pointer (some ⟨bp, 0, none⟩))) (c2 : w.cell? ⟨b5, 0, none⟩ = some (.pointer (some ⟨bt, 0, none⟩)))
    (E : Env w0 w (Hp.box bp [.string j, .int .i64 per, v2, v3, v4, v5, v6, v7, v8, v9, .slice A xs.length ca, .slice B rs.length cb, v12, v13, v14, v15, v16, v17, .slice R rows.length cr, v19, v20, v21, v22, v23, v24, v25, v26, v27, v28, v29, v30, v31, v32, v33, v34, v35, v36, v37, v38, v39, v40] 44 :: L)) (hts : ht.sub w0) (pt : PtT ht bt t) (hko : ho ∈ L) (sx : Sl kTri ho A ca xs) (hks : hs ∈ L) (ss : Sl kInt hs B cb rs) (hkr : hr ∈ L) (sr : Sl kTri hr R cr rows) (hll : rs.length = xs.length) (hlx : xs.length ≤ 200) (hlr : rows.length ≤ 200) :
    Calls Tryz.prog 58 #[.pointer (some ⟨b13, 0, none⟩), .pointer (some ⟨b5, 0, none⟩)] w (ChAns t j per xs rs rows A B R ca cb cr bp v2 v3 v4 v5 v6 v7 v8 v9 v12 v13 v14 v15 v16 v17 v19 v20 v21 v22 v23 v24 v25 v26 v27 v28 v29 v30 v31 v36 v37 v38 v39 v40 w0 L) := by
  have CC := fun W (EW : Env w0 W (Hp.box bp [.string j, .int .i64 per, v2, v3, v4, v5, v6, v7, v8, v9, .slice A xs.length ca, .slice B rs.length cb, v12, v13, v14, v15, v16, v17, .slice R rows.length cr, v19, v20, v21, v22, v23, v24, v25, v26, v27, v28, v29, v30, v31, v32, v33, v34, v35, v36, v37, v38, v39, v40] 44 :: L)) => changes_calls t j per xs rs rows A B R ca cb cr bp bt v2 v3 v4 v5 v6 v7 v8 v9 v12 v13 v14 v15 v16 v17 v19 v20 v21 v22 v23 v24 v25 v26 v27 v28 v29 v30 v31 v32 v33 v34 v35 v36 v37 v38 v39 v40 ht ho hs hr w0 W L EW hts pt hko sx hks ss hkr sr hll hlx hlr
  clear hll
  go_enter Tryz.func58, Tryz.ntmps58
  go_wp2_with fail
  refine (CC _ E).mono ?_
  rintro e w9 hC
  rcases hC with ⟨h1, rfl, h2⟩ | ⟨h1, rfl, h2⟩
  · replace h1 := Lib.hid h1
    go_wp2
    go_ret
    exact .inl ⟨h1.out, rfl, h2⟩
  · replace h1 := Lib.hid h1
    replace h2 := Lib.hid h2
    go_wp2
    go_ret
    exact .inr ⟨h1.out, rfl, h2.out⟩
/-- A provision's cells, in the part h of memory. -/
def ProvAt (h : Hp) (a : SArg) (cs : List Value) : Prop :=
  ∃ (D : Option Addr) (cd : Nat) (G : Option Addr) (cg : Nat) (R : Option Addr) (cr : Nat) (Q : Option Addr) (cq : Nat) (V : Option Addr) (cv : Nat) (C : Option Addr) (cw : Nat) (N : Option Addr) (cn : Nat),
    cs = [.string a.x.j, .int .i64 a.x.per, .int .i64 a.x.book, .int .i64 a.x.perm, .int .i64 a.x.judge, .int .i64 a.x.cap, .int .i64 a.x.life, .int .i64 a.x.up, .int .i64 a.rt, .int .i64 a.o.per, .slice D a.o.xs.length cd, .slice G a.o.rs.length cg, .int .i64 a.o.nx, .int .i64 a.o.lf, .int .i64 a.o.tm, .int .i64 a.o.ls, .int .i64 a.o.al, .int .i64 a.x.per, .slice R a.r.length cr, .slice Q a.rats.length cq, .int .i64 a.nx, .int .i64 a.lf, .int .i64 a.tm, .int .i64 a.ls, .int .i64 a.al, .int .i64 a.inc, .int .i64 (vGone a.v a.yr), .int .i64 a.vec.sum, .int .i64 (curNew a.inc), .int .i64 a.txb, .int .i64 a.tax, .slice V a.vec.length cv, .slice C a.rows.length cw, .slice N a.now.length cn, .int .i64 a.mo, .int .i64 a.ra, .int .i64 a.lm, .int .i64 a.lr, .int .i64 a.am, .int .i64 a.df, .int .i64 a.tot] ∧
    Sl kTri h D cd a.o.xs ∧ Sl kInt h G cg a.o.rs ∧ Sl kTri h R cr a.r ∧ Sl kInt h Q cq a.rats ∧ Sl kInt h V cv a.vec ∧ Sl kWay h C cw a.rows ∧ Sl kInt h N cn a.now
def provZ : Value := .agg #[.string ⟨#[]⟩, .int .i64 0, .int .i64 0, .int .i64 0, .int .i64 0, .int .i64 0, .int .i64 0, .int .i64 0, .int .i64 0, .int .i64 0, .slice none 0 0, .slice none 0 0, .int .i64 0, .int .i64 0, .int .i64 0, .int .i64 0, .int .i64 0, .int .i64 0, .slice none 0 0, .slice none 0 0, .int .i64 0, .int .i64 0, .int .i64 0, .int .i64 0, .int .i64 0, .int .i64 0, .int .i64 0, .int .i64 0, .int .i64 0, .int .i64 0, .int .i64 0, .slice none 0 0, .slice none 0 0, .slice none 0 0, .int .i64 0, .int .i64 0, .int .i64 0, .int .i64 0, .int .i64 0, .int .i64 0, .int .i64 0]
/-- What closing.Make answers. -/
def MkAns (a : SArg) (w : World) (e : Ending) (w' : World) : Prop :=
  (a.makE ≠ 0 ∧ e = .returned (.tuple #[.agg #[.string ⟨#[]⟩, .int .i64 0, .int .i64 0, .int .i64 0, .int .i64 0, .int .i64 0, .int .i64 0, .int .i64 0, .int .i64 0, .int .i64 0, .slice none 0 0, .slice none 0 0, .int .i64 0, .int .i64 0, .int .i64 0, .int .i64 0, .int .i64 0, .int .i64 0, .slice none 0 0, .slice none 0 0, .int .i64 0, .int .i64 0, .int .i64 0, .int .i64 0, .int .i64 0, .int .i64 0, .int .i64 0, .int .i64 0, .int .i64 0, .int .i64 0, .int .i64 0, .slice none 0 0, .slice none 0 0, .slice none 0 0, .int .i64 0, .int .i64 0, .int .i64 0, .int .i64 0, .int .i64 0, .int .i64 0, .int .i64 0], .pointer none, .int .i64 a.makE]) ∧ Below w.heap.size w w') ∨
  (a.makE = 0 ∧ ∃ h hl bl cs, e = .returned (.tuple #[.agg (List.toArray cs), .pointer (some ⟨bl, 0, none⟩), .int .i64 0]) ∧ ProvAt h a cs ∧ Vnt hl bl a.left ∧ Env w w' [h, hl])
theorem MkAns.no {a : SArg} {w w' : World} {q : Int} (h : a.makE = q) (h0 : q ≠ 0) (b : Below w.heap.size w w') : MkAns a w (.returned (.tuple #[.agg #[.string ⟨#[]⟩, .int .i64 0, .int .i64 0, .int .i64 0, .int .i64 0, .int .i64 0, .int .i64 0, .int .i64 0, .int .i64 0, .int .i64 0, .slice none 0 0, .slice none 0 0, .int .i64 0, .int .i64 0, .int .i64 0, .int .i64 0, .int .i64 0, .int .i64 0, .slice none 0 0, .slice none 0 0, .int .i64 0, .int .i64 0, .int .i64 0, .int .i64 0, .int .i64 0, .int .i64 0, .int .i64 0, .int .i64 0, .int .i64 0, .int .i64 0, .int .i64 0, .slice none 0 0, .slice none 0 0, .slice none 0 0, .int .i64 0, .int .i64 0, .int .i64 0, .int .i64 0, .int .i64 0, .int .i64 0, .int .i64 0], .pointer none, .int .i64 q])) w' := .inl ⟨by rw [h]; exact h0, by rw [h], b⟩
theorem closingMake_calls (t : List SRate) (x : SInp) (o : SBal) (v r : List STri) (g : GoodA ⟨t, x, o, v, r⟩) (A B : Option Addr) (ca cb bt bv br : Nat) (ht hx hs hv hr : Hp) (w : World) (hts : ht.sub w) (hxs : hx.sub w) (hss : hs.sub w) (hvs : hv.sub w) (hrs : hr.sub w)
    (pt : PtT ht bt t) (sx : Sl kTri hx A ca o.xs) (ss : Sl kInt hs B cb o.rs) (SV : Vnt hv bv v) (SR : Regi hr br r) :
    Calls Tryz.prog 17 #[.pointer (some ⟨bt, 0, none⟩), .agg #[.string x.j, .int .i64 x.per, .int .i64 x.book, .int .i64 x.perm, .int .i64 x.judge, .int .i64 x.cap, .int .i64 x.life, .int .i64 x.up], .agg #[.int .i64 o.per, .slice A o.xs.length ca, .slice B o.rs.length cb, .int .i64 o.nx, .int .i64 o.lf, .int .i64 o.tm, .int .i64 o.ls, .int .i64 o.al], .pointer (some ⟨bv, 0, none⟩), .pointer (some ⟨br, 0, none⟩)] w (MkAns ⟨t, x, o, v, r⟩ w) := by
  have HK : Hid ((⟨t, x, o, v, r⟩ : SArg).makE = if (perOk x.per && (rightRate x.judge && money x.up)) = false then 1 else if knE t x r ≠ 0 then knE t x r else if (⟨t, x, o, v, r⟩ : SArg).taxE ≠ 0 then (⟨t, x, o, v, r⟩ : SArg).taxE else if (⟨t, x, o, v, r⟩ : SArg).balE ≠ 0 then (⟨t, x, o, v, r⟩ : SArg).balE else if (⟨t, x, o, v, r⟩ : SArg).chgE ≠ 0 then (⟨t, x, o, v, r⟩ : SArg).chgE else (⟨t, x, o, v, r⟩ : SArg).costE) := rfl
  have HA : Hid (∀ e w', MkAns ⟨t, x, o, v, r⟩ w e w' → MkAns ⟨t, x, o, v, r⟩ w e w') := fun _ _ h => h
  obtain ⟨M, hM⟩ : ∃ M, M = MkAns ⟨t, x, o, v, r⟩ w := ⟨_, rfl⟩
  have MN : Hid (∀ (q : Int) (w' : World), (⟨t, x, o, v, r⟩ : SArg).makE = q → q ≠ 0 → Below w.heap.size w w' → M (.returned (.tuple #[.agg #[.string ⟨#[]⟩, .int .i64 0, .int .i64 0, .int .i64 0, .int .i64 0, .int .i64 0, .int .i64 0, .int .i64 0, .int .i64 0, .int .i64 0, .slice none 0 0, .slice none 0 0, .int .i64 0, .int .i64 0, .int .i64 0, .int .i64 0, .int .i64 0, .int .i64 0, .slice none 0 0, .slice none 0 0, .int .i64 0, .int .i64 0, .int .i64 0, .int .i64 0, .int .i64 0, .int .i64 0, .int .i64 0, .int .i64 0, .int .i64 0, .int .i64 0, .int .i64 0, .slice none 0 0, .slice none 0 0, .slice none 0 0, .int .i64 0, .int .i64 0, .int .i64 0, .int .i64 0, .int .i64 0, .int .i64 0, .int .i64 0], .pointer none, .int .i64 q])) w') := fun _ _ h h0 b => by rw [hM]; exact .no h h0 b
  have HM := Lib.hid hM
  rw [← hM]
  clear hM HA
  have h12 := g.r.len
  have h13 := g.o.reg.len
  have h14 := Lib.hid g.o.len
  have PC := fun W : World => perRight_calls x.per W
  have RC := fun W : World => rateRight_calls x.judge W
  have UC := fun W : World => money_calls x.up W
  have E0 := ((((Env.start w).new0 (Upd.newBlock w (.cells #[.pointer (some ⟨bt, 0, none⟩)] 22))).new0 (Upd.newBlock _ (.cells #[.string x.j, .int .i64 x.per, .int .i64 x.book, .int .i64 x.perm, .int .i64 x.judge, .int .i64 x.cap, .int .i64 x.life, .int .i64 x.up] 31))).new0 (Upd.newBlock _ (.cells #[.int .i64 o.per, .slice A o.xs.length ca, .slice B o.rs.length cb, .int .i64 o.nx, .int .i64 o.lf, .int .i64 o.tm, .int .i64 o.ls, .int .i64 o.al] 37))).new0 (Upd.newBlock _ (.cells #[.string ⟨#[]⟩, .int .i64 0, .int .i64 0, .int .i64 0, .int .i64 0, .int .i64 0, .int .i64 0, .int .i64 0, .int .i64 0, .int .i64 0, .slice none 0 0, .slice none 0 0, .int .i64 0, .int .i64 0, .int .i64 0, .int .i64 0, .int .i64 0, .int .i64 0, .slice none 0 0, .slice none 0 0, .int .i64 0, .int .i64 0, .int .i64 0, .int .i64 0, .int .i64 0, .int .i64 0, .int .i64 0, .int .i64 0, .int .i64 0, .int .i64 0, .int .i64 0, .slice none 0 0, .slice none 0 0, .slice none 0 0, .int .i64 0, .int .i64 0, .int .i64 0, .int .i64 0, .int .i64 0, .int .i64 0, .int .i64 0] 44))
  simp at E0
  go_enter Tryz.func17, Tryz.ntmps17
  go_upto_region 1 with fail
  obtain ⟨W0, hW0⟩ : ∃ W0, W0 = (((w.alloc (.cells #[.pointer (some ⟨bt, 0, none⟩)] 22)).alloc (.cells #[.string x.j, .int .i64 x.per, .int .i64 x.book, .int .i64 x.perm, .int .i64 x.judge, .int .i64 x.cap, .int .i64 x.life, .int .i64 x.up] 31)).alloc (.cells #[.int .i64 o.per, .slice A o.xs.length ca, .slice B o.rs.length cb, .int .i64 o.nx, .int .i64 o.lf, .int .i64 o.tm, .int .i64 o.ls, .int .i64 o.al] 37)).alloc (.cells #[.string ⟨#[]⟩, .int .i64 0, .int .i64 0, .int .i64 0, .int .i64 0, .int .i64 0, .int .i64 0, .int .i64 0, .int .i64 0, .int .i64 0, .slice none 0 0, .slice none 0 0, .int .i64 0, .int .i64 0, .int .i64 0, .int .i64 0, .int .i64 0, .int .i64 0, .slice none 0 0, .slice none 0 0, .int .i64 0, .int .i64 0, .int .i64 0, .int .i64 0, .int .i64 0, .int .i64 0, .int .i64 0, .int .i64 0, .int .i64 0, .int .i64 0, .int .i64 0, .slice none 0 0, .slice none 0 0, .slice none 0 0, .int .i64 0, .int .i64 0, .int .i64 0, .int .i64 0, .int .i64 0, .int .i64 0, .int .i64 0] 44) := ⟨_, rfl⟩
  rw [← hW0] at E0
  rw [← hW0]
  clear hW0
  generalize w.heap.size + 1 + 1 + 1 = b10 at *
  generalize w.heap.size + 1 + 1 = b7 at *
  generalize w.heap.size + 1 = b6 at *
  have E1 : Env w W0 (Hp.box b10 [.string ⟨#[]⟩, .int .i64 0, .int .i64 0, .int .i64 0, .int .i64 0, .int .i64 0, .int .i64 0, .int .i64 0, .int .i64 0, .int .i64 0, .slice none 0 0, .slice none 0 0, .int .i64 0, .int .i64 0, .int .i64 0, .int .i64 0, .int .i64 0, .int .i64 0, .slice none 0 0, .slice none 0 0, .int .i64 0, .int .i64 0, .int .i64 0, .int .i64 0, .int .i64 0, .int .i64 0, .int .i64 0, .int .i64 0, .int .i64 0, .int .i64 0, .int .i64 0, .slice none 0 0, .slice none 0 0, .slice none 0 0, .int .i64 0, .int .i64 0, .int .i64 0, .int .i64 0, .int .i64 0, .int .i64 0, .int .i64 0] 44 :: Hp.box b7 [.int .i64 o.per, .slice A o.xs.length ca, .slice B o.rs.length cb, .int .i64 o.nx, .int .i64 o.lf, .int .i64 o.tm, .int .i64 o.ls, .int .i64 o.al] 37 :: Hp.box b6 [.string x.j, .int .i64 x.per, .int .i64 x.book, .int .i64 x.perm, .int .i64 x.judge, .int .i64 x.cap, .int .i64 x.life, .int .i64 x.up] 31 :: Hp.box w.heap.size [.pointer (some ⟨bt, 0, none⟩)] 22 :: []) := E0
  clear E0
  generalize w.heap.size = b5 at E1 ⊢
  have z1 := E1.cell 2 rfl 1 rfl
  have z4 := E1.cell 2 rfl 4 rfl
  have z7 := E1.cell 2 rfl 7 rfl
  have HRET : Hid (∀ (W : World) (tmps : Array Value) (L : List Hp) (i : Nat) (q : Int) (b : Nat), Env w W L → L[i]? = some (Hp.box b [.string ⟨#[]⟩, .int .i64 0, .int .i64 0, .int .i64 0, .int .i64 0, .int .i64 0, .int .i64 0, .int .i64 0, .int .i64 0, .int .i64 0, .slice none 0 0, .slice none 0 0, .int .i64 0, .int .i64 0, .int .i64 0, .int .i64 0, .int .i64 0, .int .i64 0, .slice none 0 0, .slice none 0 0, .int .i64 0, .int .i64 0, .int .i64 0, .int .i64 0, .int .i64 0, .int .i64 0, .int .i64 0, .int .i64 0, .int .i64 0, .int .i64 0, .int .i64 0, .slice none 0 0, .slice none 0 0, .slice none 0 0, .int .i64 0, .int .i64 0, .int .i64 0, .int .i64 0, .int .i64 0, .int .i64 0, .int .i64 0] 44) → tmps.getD 10 undef = .pointer (some ⟨b, 0, none⟩) → tmps.getD 11 undef = .pointer none → tmps.getD 12 undef = .int .i64 q → (⟨t, x, o, v, r⟩ : SArg).makE = q → q ≠ 0 → bodyPost Tryz.prog Tryz.f17 M .ret ⟨tmps, []⟩ W) := fun W tmps L i q b EL hi t10 t11 t12 hq h0 => bodyPost_ret (results_env3 Tryz.results17 EL i hi t10 Tryz.underlying44 rfl (by kernel_rfl) t11 t12) rfl (MN.out _ _ hq h0 EL.low)
  cases hp : perOk x.per with
  | false =>
    have HE : Hid ((⟨t, x, o, v, r⟩ : SArg).makE = 1) := by unfold Hid; rw [HK.out, hp]; rfl
    rw [hp] at PC
    clear hp HK
    go_wp2_with fail
    refine (PC _).mono ?_
    rintro e w' ⟨rfl, rfl⟩
    go_wp2_with (refine wpList_store_env rfl E1 0 rfl 44 _ _ rfl 0 [.string ⟨#[]⟩, .int .i64 0, .int .i64 0, .int .i64 0, .int .i64 0, .int .i64 0, .int .i64 0, .int .i64 0, .int .i64 0, .int .i64 0, .slice none 0 0, .slice none 0 0, .int .i64 0, .int .i64 0, .int .i64 0, .int .i64 0, .int .i64 0, .int .i64 0, .slice none 0 0, .slice none 0 0, .int .i64 0, .int .i64 0, .int .i64 0, .int .i64 0, .int .i64 0, .int .i64 0, .int .i64 0, .int .i64 0, .int .i64 0, .int .i64 0, .int .i64 0, .slice none 0 0, .slice none 0 0, .slice none 0 0, .int .i64 0, .int .i64 0, .int .i64 0, .int .i64 0, .int .i64 0, .int .i64 0, .int .i64 0] rfl rfl (by simp) (by kernel_rfl) (by simp [Value.oneCell']) ?_; intro W9 E9)
    simp at E9
    exact HRET.out _ _ _ 0 1 _ E9 rfl rfl rfl rfl HE.out (by decide)
  | true =>
  cases hj : rightRate x.judge with
  | false =>
    have HE : Hid ((⟨t, x, o, v, r⟩ : SArg).makE = 1) := by unfold Hid; rw [HK.out, hj]; simp
    rw [hp] at PC
    rw [hj] at RC
    clear hp hj HK
    go_wp2_with fail
    refine (PC _).mono ?_
    rintro e w' ⟨rfl, rfl⟩
    go_wp2_with fail
    refine (RC _).mono ?_
    rintro e w' ⟨rfl, rfl⟩
    go_wp2_with (refine wpList_store_env rfl E1 0 rfl 44 _ _ rfl 0 [.string ⟨#[]⟩, .int .i64 0, .int .i64 0, .int .i64 0, .int .i64 0, .int .i64 0, .int .i64 0, .int .i64 0, .int .i64 0, .int .i64 0, .slice none 0 0, .slice none 0 0, .int .i64 0, .int .i64 0, .int .i64 0, .int .i64 0, .int .i64 0, .int .i64 0, .slice none 0 0, .slice none 0 0, .int .i64 0, .int .i64 0, .int .i64 0, .int .i64 0, .int .i64 0, .int .i64 0, .int .i64 0, .int .i64 0, .int .i64 0, .int .i64 0, .int .i64 0, .slice none 0 0, .slice none 0 0, .slice none 0 0, .int .i64 0, .int .i64 0, .int .i64 0, .int .i64 0, .int .i64 0, .int .i64 0, .int .i64 0] rfl rfl (by simp) (by kernel_rfl) (by simp [Value.oneCell']) ?_; intro W9 E9)
    simp at E9
    exact HRET.out _ _ _ 0 1 _ E9 rfl rfl rfl rfl HE.out (by decide)
  | true =>
  cases hu : money x.up with
  | false =>
    have HE : Hid ((⟨t, x, o, v, r⟩ : SArg).makE = 1) := by unfold Hid; rw [HK.out, hu]; simp
    rw [hp] at PC
    rw [hj] at RC
    rw [hu] at UC
    clear hp hj hu HK
    go_wp2_with fail
    refine (PC _).mono ?_
    rintro e w' ⟨rfl, rfl⟩
    go_wp2_with fail
    refine (RC _).mono ?_
    rintro e w' ⟨rfl, rfl⟩
    go_wp2_with fail
    refine (UC _).mono ?_
    rintro e w' ⟨rfl, rfl⟩
    go_wp2_with (refine wpList_store_env rfl E1 0 rfl 44 _ _ rfl 0 [.string ⟨#[]⟩, .int .i64 0, .int .i64 0, .int .i64 0, .int .i64 0, .int .i64 0, .int .i64 0, .int .i64 0, .int .i64 0, .int .i64 0, .slice none 0 0, .slice none 0 0, .int .i64 0, .int .i64 0, .int .i64 0, .int .i64 0, .int .i64 0, .int .i64 0, .slice none 0 0, .slice none 0 0, .int .i64 0, .int .i64 0, .int .i64 0, .int .i64 0, .int .i64 0, .int .i64 0, .int .i64 0, .int .i64 0, .int .i64 0, .int .i64 0, .int .i64 0, .slice none 0 0, .slice none 0 0, .slice none 0 0, .int .i64 0, .int .i64 0, .int .i64 0, .int .i64 0, .int .i64 0, .int .i64 0, .int .i64 0] rfl rfl (by simp) (by kernel_rfl) (by simp [Value.oneCell']) ?_; intro W9 E9)
    simp at E9
    exact HRET.out _ _ _ 0 1 _ E9 rfl rfl rfl rfl HE.out (by decide)
  | true =>
  have HK1 : Hid ((⟨t, x, o, v, r⟩ : SArg).makE = if knE t x r ≠ 0 then knE t x r else if (⟨t, x, o, v, r⟩ : SArg).taxE ≠ 0 then (⟨t, x, o, v, r⟩ : SArg).taxE else if (⟨t, x, o, v, r⟩ : SArg).balE ≠ 0 then (⟨t, x, o, v, r⟩ : SArg).balE else if (⟨t, x, o, v, r⟩ : SArg).chgE ≠ 0 then (⟨t, x, o, v, r⟩ : SArg).chgE else (⟨t, x, o, v, r⟩ : SArg).costE) := by unfold Hid; rw [HK.out, hp, hj, hu]; rfl
  have HUP : Hid (-100000000000 ≤ x.up ∧ x.up ≤ 100000000000) := by simpa [Hid, money] using hu
  rw [hp] at PC
  rw [hj] at RC
  rw [hu] at UC
  clear hp hj hu HK
  go_wp2_with fail
  refine (PC _).mono ?_
  rintro e w' ⟨rfl, rfl⟩
  go_wp2_with fail
  refine (RC _).mono ?_
  rintro e w' ⟨rfl, rfl⟩
  go_wp2_with fail
  refine (UC _).mono ?_
  rintro e w' ⟨rfl, rfl⟩
  clear PC RC UC z1 z4 z7
  go_upto_region 3 with fail
  have OC := fun (W : World) (hW : Below w.heap.size w W) => closingOwn_calls o.per o.nx o.lf o.tm o.ls o.al A B ca cb o.xs o.rs hx hs W (hxs.of_below hW) (hss.of_below hW) sx ss (by omega) (by rw [h14.out]; omega)
  go_cut [13] (fun p V => ∃ (b13 bp : Nat) (D : Option Addr) (cd : Nat) (G : Option Addr) (cg : Nat) (hd hg : Hp), p = .pointer (some ⟨b13, 0, none⟩) ∧ Ow kTri hd D cd o.xs ∧ Ow kInt hg G cg o.rs ∧ Env w V (Hp.box bp [.string x.j, .int .i64 x.per, .int .i64 x.book, .int .i64 x.perm, .int .i64 x.judge, .int .i64 x.cap, .int .i64 x.life, .int .i64 x.up, .int .i64 0, .int .i64 o.per, .slice D o.xs.length cd, .slice G o.rs.length cg, .int .i64 o.nx, .int .i64 o.lf, .int .i64 o.tm, .int .i64 o.ls, .int .i64 o.al, .int .i64 0, .slice none 0 0, .slice none 0 0, .int .i64 0, .int .i64 0, .int .i64 0, .int .i64 0, .int .i64 0, .int .i64 0, .int .i64 0, .int .i64 0, .int .i64 0, .int .i64 0, .int .i64 0, .slice none 0 0, .slice none 0 0, .slice none 0 0, .int .i64 0, .int .i64 0, .int .i64 0, .int .i64 0, .int .i64 0, .int .i64 0, .int .i64 0] 44 :: Hp.box b13 [.pointer (some ⟨bp, 0, none⟩)] 118 :: Hp.box b10 [.string ⟨#[]⟩, .int .i64 0, .int .i64 0, .int .i64 0, .int .i64 0, .int .i64 0, .int .i64 0, .int .i64 0, .int .i64 0, .int .i64 0, .slice none 0 0, .slice none 0 0, .int .i64 0, .int .i64 0, .int .i64 0, .int .i64 0, .int .i64 0, .int .i64 0, .slice none 0 0, .slice none 0 0, .int .i64 0, .int .i64 0, .int .i64 0, .int .i64 0, .int .i64 0, .int .i64 0, .int .i64 0, .int .i64 0, .int .i64 0, .int .i64 0, .int .i64 0, .slice none 0 0, .slice none 0 0, .slice none 0 0, .int .i64 0, .int .i64 0, .int .i64 0, .int .i64 0, .int .i64 0, .int .i64 0, .int .i64 0] 44 :: Hp.box b6 [.string x.j, .int .i64 x.per, .int .i64 x.book, .int .i64 x.perm, .int .i64 x.judge, .int .i64 x.cap, .int .i64 x.life, .int .i64 x.up] 31 :: Hp.box b5 [.pointer (some ⟨bt, 0, none⟩)] 22 :: hd :: hg :: []))
  case first =>
    have EV := E1.drew
    refine wp_region_held_drew (S := (fun V => V.rangeAt b6 0 [.string x.j, .int .i64 x.per, .int .i64 x.book, .int .i64 x.perm, .int .i64 x.judge, .int .i64 x.cap, .int .i64 x.life, .int .i64 x.up] ∧ V.rangeAt b7 0 [.int .i64 o.per, .slice A o.xs.length ca, .slice B o.rs.length cb, .int .i64 o.nx, .int .i64 o.lf, .int .i64 o.tm, .int .i64 o.ls, .int .i64 o.al])) (by kernel_rfl) ?_ (fun hHeld => ?_)
    · (try dsimp only)
      first | (exact ⟨E1.drew.rangeMid 2 rfl 0 [.string x.j, .int .i64 x.per, .int .i64 x.book, .int .i64 x.perm, .int .i64 x.judge, .int .i64 x.cap, .int .i64 x.life, .int .i64 x.up] rfl, E1.drew.rangeMid 1 rfl 0 [.int .i64 o.per, .slice A o.xs.length ca, .slice B o.rs.length cb, .int .i64 o.nx, .int .i64 o.lf, .int .i64 o.tm, .int .i64 o.ls, .int .i64 o.al] rfl⟩)
    refine take_on (i := 0) (by (simp only [List.getElem?_toArray, List.getElem?_cons_succ, List.getElem?_cons_zero]) <;> rfl) (by kernel_rfl) (by kernel_rfl) (by kernel_rfl) (by intro _ _ _ _ h; exact h) (by rfl) (by assumption) ⟨_, fun W0 hSw => exec_load_mid 31 _ rfl b6 0 rfl [.string x.j, .int .i64 x.per, .int .i64 x.book, .int .i64 x.perm, .int .i64 x.judge, .int .i64 x.cap, .int .i64 x.life, .int .i64 x.up] _ W0 (hSw.1) Tryz.underlying31 rfl (by kernel_rfl), ?_⟩
    try simp only [Act.put, List.setIfInBounds_toArray, List.set_cons_zero, List.set_cons_succ]
    refine take_on (i := 1) (by (simp only [List.getElem?_toArray, List.getElem?_cons_succ, List.getElem?_cons_zero]) <;> rfl) (by kernel_rfl) (by kernel_rfl) (by kernel_rfl) (by intro _ _ _ _ h; exact h) (by rfl) (by assumption) ⟨_, fun W0 hSw => exec_load_mid 37 _ rfl b7 0 rfl [.int .i64 o.per, .slice A o.xs.length ca, .slice B o.rs.length cb, .int .i64 o.nx, .int .i64 o.lf, .int .i64 o.tm, .int .i64 o.ls, .int .i64 o.al] _ W0 (hSw.2) Tryz.underlying37 rfl (by kernel_rfl), ?_⟩
    try simp only [Act.put, List.setIfInBounds_toArray, List.set_cons_zero, List.set_cons_succ]
    refine wpAnyH_ready (rs := [2, 5]) (by kernel_rfl) (by simp) ?_
    refine (AllReadyH.cons (by (simp only [List.getElem?_toArray, List.getElem?_cons_succ, List.getElem?_cons_zero]) <;> rfl) (fun K hK => ?_) (AllReadyH.cons (by (simp only [List.getElem?_toArray, List.getElem?_cons_succ, List.getElem?_cons_zero]) <;> rfl) (fun K hK => ?_) AllReadyH.nil))
    · go_simp
      refine (OC _ EV.low).mono ?_
      rintro e w5 ⟨D, G, cd, cg, hd, hg, rfl, od, og, F5⟩
      replace EV := EV.join F5
      simp at EV
      have hkeep := And.intro (EV.rangeMid 2 rfl 0 [.string x.j, .int .i64 x.per, .int .i64 x.book, .int .i64 x.perm, .int .i64 x.judge, .int .i64 x.cap, .int .i64 x.life, .int .i64 x.up] rfl) (EV.rangeMid 1 rfl 0 [.int .i64 o.per, .slice A o.xs.length ca, .slice B o.rs.length cb, .int .i64 o.nx, .int .i64 o.lf, .int .i64 o.tm, .int .i64 o.ls, .int .i64 o.al] rfl)
      go_wp2_with fail
      refine hK.out _ _ ?_ (fun hHeld => ?_)
      · (try dsimp only)
        first | (exact hkeep) | (exact ⟨E1.drew.rangeMid 2 rfl 0 [.string x.j, .int .i64 x.per, .int .i64 x.book, .int .i64 x.perm, .int .i64 x.judge, .int .i64 x.cap, .int .i64 x.life, .int .i64 x.up] rfl, E1.drew.rangeMid 1 rfl 0 [.int .i64 o.per, .slice A o.xs.length ca, .slice B o.rs.length cb, .int .i64 o.nx, .int .i64 o.lf, .int .i64 o.tm, .int .i64 o.ls, .int .i64 o.al] rfl⟩)
      clear hK K
      try simp only [Act.put, List.setIfInBounds_toArray, List.set_cons_zero, List.set_cons_succ]
      refine take_on (i := 3) (by (simp only [List.getElem?_toArray, List.getElem?_cons_succ, List.getElem?_cons_zero]) <;> rfl) (by kernel_rfl) (by kernel_rfl) (by kernel_rfl) (by intro _ _ _ _ h; exact h) (by rfl) (by assumption) ?_
      apply Exists.intro
      refine ⟨?_, ?_⟩
      · intro W0 hSw
        try dsimp only at hSw
        go_simp
        try (with_reducible rfl)
      try simp only [Act.put, List.setIfInBounds_toArray, List.set_cons_zero, List.set_cons_succ]
      refine wpAnyH_ready (rs := [4, 5]) (by kernel_rfl) (by simp) ?_
      refine (AllReadyH.cons (by (simp only [List.getElem?_toArray, List.getElem?_cons_succ, List.getElem?_cons_zero]) <;> rfl) (fun K hK => ?_) (AllReadyH.cons (by (simp only [List.getElem?_toArray, List.getElem?_cons_succ, List.getElem?_cons_zero]) <;> rfl) (fun K hK => ?_) AllReadyH.nil))
      · go_simp
        refine abs_env (EV.box0 [.string x.j, .int .i64 x.per, .int .i64 x.book, .int .i64 x.perm, .int .i64 x.judge, .int .i64 x.cap, .int .i64 x.life, .int .i64 x.up, .int .i64 0, .int .i64 o.per, .slice D o.xs.length cd, .slice G o.rs.length cg, .int .i64 o.nx, .int .i64 o.lf, .int .i64 o.tm, .int .i64 o.ls, .int .i64 o.al, .int .i64 0, .slice none 0 0, .slice none 0 0, .int .i64 0, .int .i64 0, .int .i64 0, .int .i64 0, .int .i64 0, .int .i64 0, .int .i64 0, .int .i64 0, .int .i64 0, .int .i64 0, .int .i64 0, .slice none 0 0, .slice none 0 0, .slice none 0 0, .int .i64 0, .int .i64 0, .int .i64 0, .int .i64 0, .int .i64 0, .int .i64 0, .int .i64 0] 44) (fun W4 EV => ?_)
        have hkeep := And.intro (EV.rangeMid 3 rfl 0 [.string x.j, .int .i64 x.per, .int .i64 x.book, .int .i64 x.perm, .int .i64 x.judge, .int .i64 x.cap, .int .i64 x.life, .int .i64 x.up] rfl) (EV.rangeMid 2 rfl 0 [.int .i64 o.per, .slice A o.xs.length ca, .slice B o.rs.length cb, .int .i64 o.nx, .int .i64 o.lf, .int .i64 o.tm, .int .i64 o.ls, .int .i64 o.al] rfl)
        refine hK.out _ _ ?_ (fun hHeld => ?_)
        · (try dsimp only)
          first | (exact hkeep) | (exact ⟨E1.drew.rangeMid 2 rfl 0 [.string x.j, .int .i64 x.per, .int .i64 x.book, .int .i64 x.perm, .int .i64 x.judge, .int .i64 x.cap, .int .i64 x.life, .int .i64 x.up] rfl, E1.drew.rangeMid 1 rfl 0 [.int .i64 o.per, .slice A o.xs.length ca, .slice B o.rs.length cb, .int .i64 o.nx, .int .i64 o.lf, .int .i64 o.tm, .int .i64 o.ls, .int .i64 o.al] rfl⟩)
        clear hK K
        try simp only [Act.put, List.setIfInBounds_toArray, List.set_cons_zero, List.set_cons_succ]
        refine wpAnyH_ready (rs := [5]) (by kernel_rfl) (by simp) ?_
        refine (AllReadyH.cons (by (simp only [List.getElem?_toArray, List.getElem?_cons_succ, List.getElem?_cons_zero]) <;> rfl) (fun K hK => ?_) AllReadyH.nil)
        go_simp
        refine abs_env (EV.box0 [.pointer none] 118) (fun W3 EV => ?_)
        have hkeep := And.intro (EV.rangeMid 4 rfl 0 [.string x.j, .int .i64 x.per, .int .i64 x.book, .int .i64 x.perm, .int .i64 x.judge, .int .i64 x.cap, .int .i64 x.life, .int .i64 x.up] rfl) (EV.rangeMid 3 rfl 0 [.int .i64 o.per, .slice A o.xs.length ca, .slice B o.rs.length cb, .int .i64 o.nx, .int .i64 o.lf, .int .i64 o.tm, .int .i64 o.ls, .int .i64 o.al] rfl)
        have c13 := EV.cell 0 rfl 0 rfl
        have cf := fun n => EV.free 0 rfl n
        refine hK.out _ _ ?_ (fun hHeld => ?_)
        · (try dsimp only)
          first | (exact hkeep) | (exact ⟨E1.drew.rangeMid 2 rfl 0 [.string x.j, .int .i64 x.per, .int .i64 x.book, .int .i64 x.perm, .int .i64 x.judge, .int .i64 x.cap, .int .i64 x.life, .int .i64 x.up] rfl, E1.drew.rangeMid 1 rfl 0 [.int .i64 o.per, .slice A o.xs.length ca, .slice B o.rs.length cb, .int .i64 o.nx, .int .i64 o.lf, .int .i64 o.tm, .int .i64 o.ls, .int .i64 o.al] rfl⟩)
        clear hK K
        try simp only [Act.put, List.setIfInBounds_toArray, List.set_cons_zero, List.set_cons_succ]
        refine wpAnyH_ready (rs := [6]) (by kernel_rfl) (by simp) ?_
        refine (AllReadyH.cons (by (simp only [List.getElem?_toArray, List.getElem?_cons_succ, List.getElem?_cons_zero]) <;> rfl) (fun K hK => ?_) AllReadyH.nil)
        go_simp
        refine abs_env (EV.cellset 0 rfl 0 _) (fun W6 EV => ?_)
        simp only [List.set_cons_zero, List.set_cons_succ] at EV
        have hkeep := And.intro (EV.rangeMid 4 rfl 0 [.string x.j, .int .i64 x.per, .int .i64 x.book, .int .i64 x.perm, .int .i64 x.judge, .int .i64 x.cap, .int .i64 x.life, .int .i64 x.up] rfl) (EV.rangeMid 3 rfl 0 [.int .i64 o.per, .slice A o.xs.length ca, .slice B o.rs.length cb, .int .i64 o.nx, .int .i64 o.lf, .int .i64 o.tm, .int .i64 o.ls, .int .i64 o.al] rfl)
        replace EV := EV.swapTo
        refine hK.out _ _ ?_ (fun hHeld => ?_)
        · (try dsimp only)
          first | (exact hkeep) | (exact ⟨E1.drew.rangeMid 2 rfl 0 [.string x.j, .int .i64 x.per, .int .i64 x.book, .int .i64 x.perm, .int .i64 x.judge, .int .i64 x.cap, .int .i64 x.life, .int .i64 x.up] rfl, E1.drew.rangeMid 1 rfl 0 [.int .i64 o.per, .slice A o.xs.length ca, .slice B o.rs.length cb, .int .i64 o.nx, .int .i64 o.lf, .int .i64 o.tm, .int .i64 o.ls, .int .i64 o.al] rfl⟩)
        clear hK K
        try simp only [Act.put, List.setIfInBounds_toArray, List.set_cons_zero, List.set_cons_succ]
        refine wpAnyH_done (by kernel_rfl) ?_ _
        replace EV := EV.drop 3
        simp at EV
        go_wp2_with fail
        go_meet
        exact ⟨_, _, D, cd, G, cg, hd, hg, rfl, od, og, EV⟩
      · go_simp
        refine abs_env (EV.box0 [.pointer none] 118) (fun W3 EV => ?_)
        have hkeep := And.intro (EV.rangeMid 3 rfl 0 [.string x.j, .int .i64 x.per, .int .i64 x.book, .int .i64 x.perm, .int .i64 x.judge, .int .i64 x.cap, .int .i64 x.life, .int .i64 x.up] rfl) (EV.rangeMid 2 rfl 0 [.int .i64 o.per, .slice A o.xs.length ca, .slice B o.rs.length cb, .int .i64 o.nx, .int .i64 o.lf, .int .i64 o.tm, .int .i64 o.ls, .int .i64 o.al] rfl)
        refine hK.out _ _ ?_ (fun hHeld => ?_)
        · (try dsimp only)
          first | (exact hkeep) | (exact ⟨E1.drew.rangeMid 2 rfl 0 [.string x.j, .int .i64 x.per, .int .i64 x.book, .int .i64 x.perm, .int .i64 x.judge, .int .i64 x.cap, .int .i64 x.life, .int .i64 x.up] rfl, E1.drew.rangeMid 1 rfl 0 [.int .i64 o.per, .slice A o.xs.length ca, .slice B o.rs.length cb, .int .i64 o.nx, .int .i64 o.lf, .int .i64 o.tm, .int .i64 o.ls, .int .i64 o.al] rfl⟩)
        clear hK K
        try simp only [Act.put, List.setIfInBounds_toArray, List.set_cons_zero, List.set_cons_succ]
        refine wpAnyH_ready (rs := [4]) (by kernel_rfl) (by simp) ?_
        refine (AllReadyH.cons (by (simp only [List.getElem?_toArray, List.getElem?_cons_succ, List.getElem?_cons_zero]) <;> rfl) (fun K hK => ?_) AllReadyH.nil)
        go_simp
        refine abs_env (EV.box0 [.string x.j, .int .i64 x.per, .int .i64 x.book, .int .i64 x.perm, .int .i64 x.judge, .int .i64 x.cap, .int .i64 x.life, .int .i64 x.up, .int .i64 0, .int .i64 o.per, .slice D o.xs.length cd, .slice G o.rs.length cg, .int .i64 o.nx, .int .i64 o.lf, .int .i64 o.tm, .int .i64 o.ls, .int .i64 o.al, .int .i64 0, .slice none 0 0, .slice none 0 0, .int .i64 0, .int .i64 0, .int .i64 0, .int .i64 0, .int .i64 0, .int .i64 0, .int .i64 0, .int .i64 0, .int .i64 0, .int .i64 0, .int .i64 0, .slice none 0 0, .slice none 0 0, .slice none 0 0, .int .i64 0, .int .i64 0, .int .i64 0, .int .i64 0, .int .i64 0, .int .i64 0, .int .i64 0] 44) (fun W4 EV => ?_)
        have hkeep := And.intro (EV.rangeMid 4 rfl 0 [.string x.j, .int .i64 x.per, .int .i64 x.book, .int .i64 x.perm, .int .i64 x.judge, .int .i64 x.cap, .int .i64 x.life, .int .i64 x.up] rfl) (EV.rangeMid 3 rfl 0 [.int .i64 o.per, .slice A o.xs.length ca, .slice B o.rs.length cb, .int .i64 o.nx, .int .i64 o.lf, .int .i64 o.tm, .int .i64 o.ls, .int .i64 o.al] rfl)
        have c13 := EV.cell 1 rfl 0 rfl
        have cf := fun n => EV.free 1 rfl n
        refine hK.out _ _ ?_ (fun hHeld => ?_)
        · (try dsimp only)
          first | (exact hkeep) | (exact ⟨E1.drew.rangeMid 2 rfl 0 [.string x.j, .int .i64 x.per, .int .i64 x.book, .int .i64 x.perm, .int .i64 x.judge, .int .i64 x.cap, .int .i64 x.life, .int .i64 x.up] rfl, E1.drew.rangeMid 1 rfl 0 [.int .i64 o.per, .slice A o.xs.length ca, .slice B o.rs.length cb, .int .i64 o.nx, .int .i64 o.lf, .int .i64 o.tm, .int .i64 o.ls, .int .i64 o.al] rfl⟩)
        clear hK K
        try simp only [Act.put, List.setIfInBounds_toArray, List.set_cons_zero, List.set_cons_succ]
        refine wpAnyH_ready (rs := [6]) (by kernel_rfl) (by simp) ?_
        refine (AllReadyH.cons (by (simp only [List.getElem?_toArray, List.getElem?_cons_succ, List.getElem?_cons_zero]) <;> rfl) (fun K hK => ?_) AllReadyH.nil)
        go_simp
        refine abs_env (EV.cellset 1 rfl 0 _) (fun W6 EV => ?_)
        simp only [List.set_cons_zero, List.set_cons_succ] at EV
        have hkeep := And.intro (EV.rangeMid 4 rfl 0 [.string x.j, .int .i64 x.per, .int .i64 x.book, .int .i64 x.perm, .int .i64 x.judge, .int .i64 x.cap, .int .i64 x.life, .int .i64 x.up] rfl) (EV.rangeMid 3 rfl 0 [.int .i64 o.per, .slice A o.xs.length ca, .slice B o.rs.length cb, .int .i64 o.nx, .int .i64 o.lf, .int .i64 o.tm, .int .i64 o.ls, .int .i64 o.al] rfl)
        refine hK.out _ _ ?_ (fun hHeld => ?_)
        · (try dsimp only)
          first | (exact hkeep) | (exact ⟨E1.drew.rangeMid 2 rfl 0 [.string x.j, .int .i64 x.per, .int .i64 x.book, .int .i64 x.perm, .int .i64 x.judge, .int .i64 x.cap, .int .i64 x.life, .int .i64 x.up] rfl, E1.drew.rangeMid 1 rfl 0 [.int .i64 o.per, .slice A o.xs.length ca, .slice B o.rs.length cb, .int .i64 o.nx, .int .i64 o.lf, .int .i64 o.tm, .int .i64 o.ls, .int .i64 o.al] rfl⟩)
        clear hK K
        try simp only [Act.put, List.setIfInBounds_toArray, List.set_cons_zero, List.set_cons_succ]
        refine wpAnyH_done (by kernel_rfl) ?_ _
        replace EV := EV.drop 3
        simp at EV
        go_wp2_with fail
        go_meet
        exact ⟨_, _, D, cd, G, cg, hd, hg, rfl, od, og, EV⟩
    · go_simp
      refine abs_env (EV.box0 [.pointer none] 118) (fun W3 EV => ?_)
      have hkeep := And.intro (EV.rangeMid 3 rfl 0 [.string x.j, .int .i64 x.per, .int .i64 x.book, .int .i64 x.perm, .int .i64 x.judge, .int .i64 x.cap, .int .i64 x.life, .int .i64 x.up] rfl) (EV.rangeMid 2 rfl 0 [.int .i64 o.per, .slice A o.xs.length ca, .slice B o.rs.length cb, .int .i64 o.nx, .int .i64 o.lf, .int .i64 o.tm, .int .i64 o.ls, .int .i64 o.al] rfl)
      refine hK.out _ _ ?_ (fun hHeld => ?_)
      · (try dsimp only)
        first | (exact hkeep) | (exact ⟨E1.drew.rangeMid 2 rfl 0 [.string x.j, .int .i64 x.per, .int .i64 x.book, .int .i64 x.perm, .int .i64 x.judge, .int .i64 x.cap, .int .i64 x.life, .int .i64 x.up] rfl, E1.drew.rangeMid 1 rfl 0 [.int .i64 o.per, .slice A o.xs.length ca, .slice B o.rs.length cb, .int .i64 o.nx, .int .i64 o.lf, .int .i64 o.tm, .int .i64 o.ls, .int .i64 o.al] rfl⟩)
      clear hK K
      try simp only [Act.put, List.setIfInBounds_toArray, List.set_cons_zero, List.set_cons_succ]
      refine wpAnyH_ready (rs := [2]) (by kernel_rfl) (by simp) ?_
      refine (AllReadyH.cons (by (simp only [List.getElem?_toArray, List.getElem?_cons_succ, List.getElem?_cons_zero]) <;> rfl) (fun K hK => ?_) AllReadyH.nil)
      go_simp
      refine (OC _ EV.low).mono ?_
      rintro e w5 ⟨D, G, cd, cg, hd, hg, rfl, od, og, F5⟩
      replace EV := EV.join F5
      simp at EV
      have hkeep := And.intro (EV.rangeMid 3 rfl 0 [.string x.j, .int .i64 x.per, .int .i64 x.book, .int .i64 x.perm, .int .i64 x.judge, .int .i64 x.cap, .int .i64 x.life, .int .i64 x.up] rfl) (EV.rangeMid 2 rfl 0 [.int .i64 o.per, .slice A o.xs.length ca, .slice B o.rs.length cb, .int .i64 o.nx, .int .i64 o.lf, .int .i64 o.tm, .int .i64 o.ls, .int .i64 o.al] rfl)
      go_wp2_with fail
      refine hK.out _ _ ?_ (fun hHeld => ?_)
      · (try dsimp only)
        first | (exact hkeep) | (exact ⟨E1.drew.rangeMid 2 rfl 0 [.string x.j, .int .i64 x.per, .int .i64 x.book, .int .i64 x.perm, .int .i64 x.judge, .int .i64 x.cap, .int .i64 x.life, .int .i64 x.up] rfl, E1.drew.rangeMid 1 rfl 0 [.int .i64 o.per, .slice A o.xs.length ca, .slice B o.rs.length cb, .int .i64 o.nx, .int .i64 o.lf, .int .i64 o.tm, .int .i64 o.ls, .int .i64 o.al] rfl⟩)
      clear hK K
      try simp only [Act.put, List.setIfInBounds_toArray, List.set_cons_zero, List.set_cons_succ]
      refine take_on (i := 3) (by (simp only [List.getElem?_toArray, List.getElem?_cons_succ, List.getElem?_cons_zero]) <;> rfl) (by kernel_rfl) (by kernel_rfl) (by kernel_rfl) (by intro _ _ _ _ h; exact h) (by rfl) (by assumption) ?_
      apply Exists.intro
      refine ⟨?_, ?_⟩
      · intro W0 hSw
        try dsimp only at hSw
        go_simp
        try (with_reducible rfl)
      try simp only [Act.put, List.setIfInBounds_toArray, List.set_cons_zero, List.set_cons_succ]
      refine wpAnyH_ready (rs := [4]) (by kernel_rfl) (by simp) ?_
      refine (AllReadyH.cons (by (simp only [List.getElem?_toArray, List.getElem?_cons_succ, List.getElem?_cons_zero]) <;> rfl) (fun K hK => ?_) AllReadyH.nil)
      go_simp
      refine abs_env (EV.box0 [.string x.j, .int .i64 x.per, .int .i64 x.book, .int .i64 x.perm, .int .i64 x.judge, .int .i64 x.cap, .int .i64 x.life, .int .i64 x.up, .int .i64 0, .int .i64 o.per, .slice D o.xs.length cd, .slice G o.rs.length cg, .int .i64 o.nx, .int .i64 o.lf, .int .i64 o.tm, .int .i64 o.ls, .int .i64 o.al, .int .i64 0, .slice none 0 0, .slice none 0 0, .int .i64 0, .int .i64 0, .int .i64 0, .int .i64 0, .int .i64 0, .int .i64 0, .int .i64 0, .int .i64 0, .int .i64 0, .int .i64 0, .int .i64 0, .slice none 0 0, .slice none 0 0, .slice none 0 0, .int .i64 0, .int .i64 0, .int .i64 0, .int .i64 0, .int .i64 0, .int .i64 0, .int .i64 0] 44) (fun W4 EV => ?_)
      have hkeep := And.intro (EV.rangeMid 4 rfl 0 [.string x.j, .int .i64 x.per, .int .i64 x.book, .int .i64 x.perm, .int .i64 x.judge, .int .i64 x.cap, .int .i64 x.life, .int .i64 x.up] rfl) (EV.rangeMid 3 rfl 0 [.int .i64 o.per, .slice A o.xs.length ca, .slice B o.rs.length cb, .int .i64 o.nx, .int .i64 o.lf, .int .i64 o.tm, .int .i64 o.ls, .int .i64 o.al] rfl)
      have c13 := EV.cell 1 rfl 0 rfl
      have cf := fun n => EV.free 1 rfl n
      refine hK.out _ _ ?_ (fun hHeld => ?_)
      · (try dsimp only)
        first | (exact hkeep) | (exact ⟨E1.drew.rangeMid 2 rfl 0 [.string x.j, .int .i64 x.per, .int .i64 x.book, .int .i64 x.perm, .int .i64 x.judge, .int .i64 x.cap, .int .i64 x.life, .int .i64 x.up] rfl, E1.drew.rangeMid 1 rfl 0 [.int .i64 o.per, .slice A o.xs.length ca, .slice B o.rs.length cb, .int .i64 o.nx, .int .i64 o.lf, .int .i64 o.tm, .int .i64 o.ls, .int .i64 o.al] rfl⟩)
      clear hK K
      try simp only [Act.put, List.setIfInBounds_toArray, List.set_cons_zero, List.set_cons_succ]
      refine wpAnyH_ready (rs := [6]) (by kernel_rfl) (by simp) ?_
      refine (AllReadyH.cons (by (simp only [List.getElem?_toArray, List.getElem?_cons_succ, List.getElem?_cons_zero]) <;> rfl) (fun K hK => ?_) AllReadyH.nil)
      go_simp
      refine abs_env (EV.cellset 1 rfl 0 _) (fun W6 EV => ?_)
      simp only [List.set_cons_zero, List.set_cons_succ] at EV
      have hkeep := And.intro (EV.rangeMid 4 rfl 0 [.string x.j, .int .i64 x.per, .int .i64 x.book, .int .i64 x.perm, .int .i64 x.judge, .int .i64 x.cap, .int .i64 x.life, .int .i64 x.up] rfl) (EV.rangeMid 3 rfl 0 [.int .i64 o.per, .slice A o.xs.length ca, .slice B o.rs.length cb, .int .i64 o.nx, .int .i64 o.lf, .int .i64 o.tm, .int .i64 o.ls, .int .i64 o.al] rfl)
      refine hK.out _ _ ?_ (fun hHeld => ?_)
      · (try dsimp only)
        first | (exact hkeep) | (exact ⟨E1.drew.rangeMid 2 rfl 0 [.string x.j, .int .i64 x.per, .int .i64 x.book, .int .i64 x.perm, .int .i64 x.judge, .int .i64 x.cap, .int .i64 x.life, .int .i64 x.up] rfl, E1.drew.rangeMid 1 rfl 0 [.int .i64 o.per, .slice A o.xs.length ca, .slice B o.rs.length cb, .int .i64 o.nx, .int .i64 o.lf, .int .i64 o.tm, .int .i64 o.ls, .int .i64 o.al] rfl⟩)
      clear hK K
      try simp only [Act.put, List.setIfInBounds_toArray, List.set_cons_zero, List.set_cons_succ]
      refine wpAnyH_done (by kernel_rfl) ?_ _
      replace EV := EV.drop 3
      simp at EV
      go_wp2_with fail
      go_meet
      exact ⟨_, _, D, cd, G, cg, hd, hg, rfl, od, og, EV⟩
  case rest =>
    rename_i hcut
    clear E1
    obtain ⟨b13, bp, D, cd, G, cg, hd, hg, rfl, od, og, E⟩ := hcut
    refine ‹∀ (a : Act) (w : World), Code.wp _ _ _ a w → _› _ _ ?_
    have RW := fun (W : World) (hW : Below w.heap.size w W) => regiRows_calls br r hr W (hrs.of_below hW) SR
    have KC := fun (W : World) (R : Option Addr) (cr : Nat) (hR : Hp) (L : List Hp) (EW : Env w W (Hp.box bp [.string x.j, .int .i64 x.per, .int .i64 x.book, .int .i64 x.perm, .int .i64 x.judge, .int .i64 x.cap, .int .i64 x.life, .int .i64 x.up, .int .i64 0, .int .i64 o.per, .slice D o.xs.length cd, .slice G o.rs.length cg, .int .i64 o.nx, .int .i64 o.lf, .int .i64 o.tm, .int .i64 o.ls, .int .i64 o.al, .int .i64 0, .slice none 0 0, .slice none 0 0, .int .i64 0, .int .i64 0, .int .i64 0, .int .i64 0, .int .i64 0, .int .i64 0, .int .i64 0, .int .i64 0, .int .i64 0, .int .i64 0, .int .i64 0, .slice none 0 0, .slice none 0 0, .slice none 0 0, .int .i64 0, .int .i64 0, .int .i64 0, .int .i64 0, .int .i64 0, .int .i64 0, .int .i64 0] 44 :: L)) (m : hR ∈ L) (s : Sl kTri hR R cr r) => known_calls t x r R cr bp bt _ _ _ _ _ _ _ _ _ _ _ _ _ _ _ _ _ _ _ _ _ _ _ _ _ _ _ _ _ _ _ _ _ ht hR w W L EW hts pt m s (by omega)
    generalize hkn : knE t x r = kne at *
    go_upto_region 4 with fail
    have EV := E.drew
    rcases Int.decEq kne 0 with h0 | h0
    · have HE : Hid ((⟨t, x, o, v, r⟩ : SArg).makE = kne) := by unfold Hid; rw [HK1.out, if_pos h0]
      have H0 := Lib.hid h0
      have t1 : (kne != 0) = true := by simpa using h0
      refine wp_region_held_drew (S := (fun V => V.cell? ⟨b13, 0, none⟩ = some (.pointer (some ⟨bp, 0, none⟩)) ∧ V.cell? ⟨b5, 0, none⟩ = some (.pointer (some ⟨bt, 0, none⟩)))) (by kernel_rfl) ?_ (fun hHeld => ?_)
      · (try dsimp only)
        first | (exact ⟨E.drew.cell 1 rfl 0 rfl, E.drew.cell 4 rfl 0 rfl⟩)
      refine take_on (i := 0) (by (simp only [List.getElem?_toArray, List.getElem?_cons_succ, List.getElem?_cons_zero]) <;> rfl) (by kernel_rfl) (by kernel_rfl) (by kernel_rfl) (by intro _ _ _ _ h; exact h) (by rfl) (by assumption) ?_
      apply Exists.intro
      refine ⟨?_, ?_⟩
      · intro W0 hSw
        try dsimp only at hSw
        go_simp
        try (with_reducible rfl)
      try simp only [Act.put, List.setIfInBounds_toArray, List.set_cons_zero, List.set_cons_succ]
      refine take_on (i := 1) (by (simp only [List.getElem?_toArray, List.getElem?_cons_succ, List.getElem?_cons_zero]) <;> rfl) (by kernel_rfl) (by kernel_rfl) (by kernel_rfl) (by intro _ _ _ _ h; exact h) (by rfl) (by assumption) ?_
      apply Exists.intro
      refine ⟨?_, ?_⟩
      · intro W0 hSw
        try dsimp only at hSw
        go_simp
        try (with_reducible rfl)
      try simp only [Act.put, List.setIfInBounds_toArray, List.set_cons_zero, List.set_cons_succ]
      refine take_on (i := 2) (by (simp only [List.getElem?_toArray, List.getElem?_cons_succ, List.getElem?_cons_zero]) <;> rfl) (by kernel_rfl) (by kernel_rfl) (by kernel_rfl) (by intro _ _ _ _ h; exact h) (by rfl) (by assumption) ?_
      apply Exists.intro
      refine ⟨?_, ?_⟩
      · intro W0 hSw
        try dsimp only at hSw
        go_simp
        try (with_reducible rfl)
      try simp only [Act.put, List.setIfInBounds_toArray, List.set_cons_zero, List.set_cons_succ]
      refine wpAnyH_ready (rs := [3]) (by kernel_rfl) (by simp) ?_
      refine (AllReadyH.cons (by (simp only [List.getElem?_toArray, List.getElem?_cons_succ, List.getElem?_cons_zero]) <;> rfl) (fun K hK => ?_) AllReadyH.nil)
      go_simp
      refine (RW _ EV.low).mono ?_
      rintro e w5 ⟨R, cr, hR, rfl, oR, u5⟩
      replace EV := EV.new1 u5
      have hkeep := And.intro (EV.cell 2 rfl 0 rfl) (EV.cell 5 rfl 0 rfl)
      go_wp2_with fail
      refine hK.out _ _ ?_ (fun hHeld => ?_)
      · (try dsimp only)
        first | (exact hkeep) | (exact ⟨E.drew.cell 1 rfl 0 rfl, E.drew.cell 4 rfl 0 rfl⟩)
      clear hK K
      try simp only [Act.put, List.setIfInBounds_toArray, List.set_cons_zero, List.set_cons_succ]
      refine wpAnyH_ready (rs := [4]) (by kernel_rfl) (by simp) ?_
      refine (AllReadyH.cons (by (simp only [List.getElem?_toArray, List.getElem?_cons_succ, List.getElem?_cons_zero]) <;> rfl) (fun K hK => ?_) AllReadyH.nil)
      go_simp
      refine (KC _ R cr hR _ EV (by simp) oR.sl).mono ?_
      rintro e w6 hR6
      unfold KnAns at hR6
      rw [hkn] at hR6
      rcases hR6 with ⟨_, rfl, EL⟩ | ⟨h1, _⟩
      case inr => exact absurd h1 H0.out
      have hkeep := And.intro (EL.cell 1 rfl 0 rfl) (EL.cell 4 rfl 0 rfl)
      go_wp2_with fail
      refine hK.out _ _ ?_ (fun hHeld => ?_)
      · (try dsimp only)
        first | (exact hkeep) | (exact ⟨E.drew.cell 1 rfl 0 rfl, E.drew.cell 4 rfl 0 rfl⟩)
      clear hK K
      try simp only [Act.put, List.setIfInBounds_toArray, List.set_cons_zero, List.set_cons_succ]
      refine take_on (i := 5) (by (simp only [List.getElem?_toArray, List.getElem?_cons_succ, List.getElem?_cons_zero]) <;> rfl) (by kernel_rfl) (by kernel_rfl) (by kernel_rfl) (by intro _ _ _ _ h; exact h) (by rfl) (by assumption) ?_
      apply Exists.intro
      refine ⟨?_, ?_⟩
      · intro W0 hSw
        try dsimp only at hSw
        go_simp
        try (with_reducible rfl)
      try simp only [Act.put, List.setIfInBounds_toArray, List.set_cons_zero, List.set_cons_succ]
      refine wpAnyH_done (by kernel_rfl) ?_ _
      clear h0
      go_wp2_with (refine wpList_store_env rfl EL 2 rfl 44 _ _ rfl 0 [.string ⟨#[]⟩, .int .i64 0, .int .i64 0, .int .i64 0, .int .i64 0, .int .i64 0, .int .i64 0, .int .i64 0, .int .i64 0, .int .i64 0, .slice none 0 0, .slice none 0 0, .int .i64 0, .int .i64 0, .int .i64 0, .int .i64 0, .int .i64 0, .int .i64 0, .slice none 0 0, .slice none 0 0, .int .i64 0, .int .i64 0, .int .i64 0, .int .i64 0, .int .i64 0, .int .i64 0, .int .i64 0, .int .i64 0, .int .i64 0, .int .i64 0, .int .i64 0, .slice none 0 0, .slice none 0 0, .slice none 0 0, .int .i64 0, .int .i64 0, .int .i64 0, .int .i64 0, .int .i64 0, .int .i64 0, .int .i64 0] rfl rfl (by simp) (by kernel_rfl) (by simp [Value.oneCell']) ?_; intro W9 E9)
      simp at E9
      exact HRET.out _ _ _ 2 _ _ E9 rfl rfl rfl rfl HE.out H0.out
    subst h0
    have HK2 : Hid ((⟨t, x, o, v, r⟩ : SArg).makE = if (⟨t, x, o, v, r⟩ : SArg).taxE ≠ 0 then (⟨t, x, o, v, r⟩ : SArg).taxE else if (⟨t, x, o, v, r⟩ : SArg).balE ≠ 0 then (⟨t, x, o, v, r⟩ : SArg).balE else if (⟨t, x, o, v, r⟩ : SArg).chgE ≠ 0 then (⟨t, x, o, v, r⟩ : SArg).chgE else (⟨t, x, o, v, r⟩ : SArg).costE) := by unfold Hid; rw [HK1.out]; rfl
    clear HK1
    generalize hyr : yearOf x.per = yr at *
    generalize hrt : rateV t x.j yr x.per = rt at *
    generalize hnx : nextV t x.j x.per = nx at *
    generalize hrat : ratL t x.j r x.per = rats at *
    refine wp_region_held_drew (S := (fun V => V.cell? ⟨b13, 0, none⟩ = some (.pointer (some ⟨bp, 0, none⟩)) ∧ V.cell? ⟨b5, 0, none⟩ = some (.pointer (some ⟨bt, 0, none⟩)))) (by kernel_rfl) ?_ (fun hHeld => ?_)
    · (try dsimp only)
      first | (exact ⟨E.drew.cell 1 rfl 0 rfl, E.drew.cell 4 rfl 0 rfl⟩)
    refine take_on (i := 0) (by (simp only [List.getElem?_toArray, List.getElem?_cons_succ, List.getElem?_cons_zero]) <;> rfl) (by kernel_rfl) (by kernel_rfl) (by kernel_rfl) (by intro _ _ _ _ h; exact h) (by rfl) (by assumption) ?_
    apply Exists.intro
    refine ⟨?_, ?_⟩
    · intro W0 hSw
      try dsimp only at hSw
      go_simp
      try (with_reducible rfl)
    try simp only [Act.put, List.setIfInBounds_toArray, List.set_cons_zero, List.set_cons_succ]
    refine take_on (i := 1) (by (simp only [List.getElem?_toArray, List.getElem?_cons_succ, List.getElem?_cons_zero]) <;> rfl) (by kernel_rfl) (by kernel_rfl) (by kernel_rfl) (by intro _ _ _ _ h; exact h) (by rfl) (by assumption) ?_
    apply Exists.intro
    refine ⟨?_, ?_⟩
    · intro W0 hSw
      try dsimp only at hSw
      go_simp
      try (with_reducible rfl)
    try simp only [Act.put, List.setIfInBounds_toArray, List.set_cons_zero, List.set_cons_succ]
    refine take_on (i := 2) (by (simp only [List.getElem?_toArray, List.getElem?_cons_succ, List.getElem?_cons_zero]) <;> rfl) (by kernel_rfl) (by kernel_rfl) (by kernel_rfl) (by intro _ _ _ _ h; exact h) (by rfl) (by assumption) ?_
    apply Exists.intro
    refine ⟨?_, ?_⟩
    · intro W0 hSw
      try dsimp only at hSw
      go_simp
      try (with_reducible rfl)
    try simp only [Act.put, List.setIfInBounds_toArray, List.set_cons_zero, List.set_cons_succ]
    refine wpAnyH_ready (rs := [3]) (by kernel_rfl) (by simp) ?_
    refine (AllReadyH.cons (by (simp only [List.getElem?_toArray, List.getElem?_cons_succ, List.getElem?_cons_zero]) <;> rfl) (fun K hK => ?_) AllReadyH.nil)
    go_simp
    refine (RW _ EV.low).mono ?_
    rintro e w5 ⟨R, cr, hR, rfl, oR, u5⟩
    replace EV := EV.new1 u5
    have hkeep := And.intro (EV.cell 2 rfl 0 rfl) (EV.cell 5 rfl 0 rfl)
    go_wp2_with fail
    refine hK.out _ _ ?_ (fun hHeld => ?_)
    · (try dsimp only)
      first | (exact hkeep) | (exact ⟨E.drew.cell 1 rfl 0 rfl, E.drew.cell 4 rfl 0 rfl⟩)
    clear hK K
    try simp only [Act.put, List.setIfInBounds_toArray, List.set_cons_zero, List.set_cons_succ]
    refine wpAnyH_ready (rs := [4]) (by kernel_rfl) (by simp) ?_
    refine (AllReadyH.cons (by (simp only [List.getElem?_toArray, List.getElem?_cons_succ, List.getElem?_cons_zero]) <;> rfl) (fun K hK => ?_) AllReadyH.nil)
    go_simp
    refine (KC _ R cr hR _ EV (by simp) oR.sl).mono ?_
    rintro e w6 hR6
    unfold KnAns at hR6
    rw [hkn, hyr, hrt, hnx, hrat] at hR6
    rcases hR6 with ⟨h1, _⟩ | ⟨_, rfl, Q, cq, hq, oq, EK⟩
    case inl => exact absurd rfl h1
    have hkeep := And.intro (EK.cell 3 rfl 0 rfl) (EK.cell 6 rfl 0 rfl)
    go_wp2_with fail
    refine hK.out _ _ ?_ (fun hHeld => ?_)
    · (try dsimp only)
      first | (exact hkeep) | (exact ⟨E.drew.cell 1 rfl 0 rfl, E.drew.cell 4 rfl 0 rfl⟩)
    clear hK K
    try simp only [Act.put, List.setIfInBounds_toArray, List.set_cons_zero, List.set_cons_succ]
    refine take_on (i := 5) (by (simp only [List.getElem?_toArray, List.getElem?_cons_succ, List.getElem?_cons_zero]) <;> rfl) (by kernel_rfl) (by kernel_rfl) (by kernel_rfl) (by intro _ _ _ _ h; exact h) (by rfl) (by assumption) ?_
    apply Exists.intro
    refine ⟨?_, ?_⟩
    · intro W0 hSw
      try dsimp only at hSw
      go_simp
      try (with_reducible rfl)
    try simp only [Act.put, List.setIfInBounds_toArray, List.set_cons_zero, List.set_cons_succ]
    refine wpAnyH_done (by kernel_rfl) ?_ _
    clear E EV hHeld hkeep RW KC
    replace hkn := Lib.hid hkn
    replace hyr := Lib.hid hyr
    replace hrt := Lib.hid hrt
    replace hnx := Lib.hid hnx
    replace hrat := Lib.hid hrat
    obtain ⟨mov, hmov⟩ : ∃ mov, Hid (movSum (fwd o.xs r) = mov) := ⟨_, rfl⟩
    obtain ⟨te, hte⟩ : ∃ te, Hid (curE v x.book x.perm mov x.cap x.life yr rt = te) := ⟨_, rfl⟩
    have FT : Hid ((⟨t, x, o, v, r⟩ : SArg).taxE = te) := by unfold Hid; rw [← hte.out, ← hmov.out, ← hrt.out, ← hyr.out]; rfl
    have MC := fun (W : World) (dW : hd.sub W) (rW : hR.sub W) => moved_calls D R cd cr o.xs r hd hR W dW rW od.sl oR.sl (by omega) (by omega)
    rw [hmov.out] at MC
    have CT := fun (W : World) (hW : Below w.heap.size w W) => curTax_calls hv bv v x.book x.perm mov x.cap x.life yr rt W (hvs.of_below hW) SV
    rw [hte.out] at CT
    have YC := fun W : World => perYear_calls x.per W
    rw [hyr.out] at YC
    go_upto_region 7 with fail
    have EV := EK.drew
    refine wp_region_held_drew (S := (fun V => V.cell? ⟨b13, 0, none⟩ = some (.pointer (some ⟨bp, 0, none⟩)) ∧ V.cell? ⟨bp, 10, none⟩ = some (.slice D o.xs.length cd) ∧ V.cell? ⟨bp, 18, none⟩ = some (.slice R r.length cr))) (by kernel_rfl) ?_ (fun hHeld => ?_)
    · (try dsimp only)
      first | (exact ⟨EK.drew.cell 3 rfl 0 rfl, EK.drew.cell 0 rfl 10 rfl, EK.drew.cell 0 rfl 18 rfl⟩)
    refine take_on (i := 0) (by (simp only [List.getElem?_toArray, List.getElem?_cons_succ, List.getElem?_cons_zero]) <;> rfl) (by kernel_rfl) (by kernel_rfl) (by kernel_rfl) (by intro _ _ _ _ h; exact h) (by rfl) (by assumption) ?_
    apply Exists.intro
    refine ⟨?_, ?_⟩
    · intro W0 hSw
      try dsimp only at hSw
      go_simp
      try (with_reducible rfl)
    try simp only [Act.put, List.setIfInBounds_toArray, List.set_cons_zero, List.set_cons_succ]
    refine take_on (i := 1) (by (simp only [List.getElem?_toArray, List.getElem?_cons_succ, List.getElem?_cons_zero]) <;> rfl) (by kernel_rfl) (by kernel_rfl) (by kernel_rfl) (by intro _ _ _ _ h; exact h) (by rfl) (by assumption) ?_
    apply Exists.intro
    refine ⟨?_, ?_⟩
    · intro W0 hSw
      try dsimp only at hSw
      go_simp
      try (with_reducible rfl)
    try simp only [Act.put, List.setIfInBounds_toArray, List.set_cons_zero, List.set_cons_succ]
    refine take_on (i := 2) (by (simp only [List.getElem?_toArray, List.getElem?_cons_succ, List.getElem?_cons_zero]) <;> rfl) (by kernel_rfl) (by kernel_rfl) (by kernel_rfl) (by intro _ _ _ _ h; exact h) (by rfl) (by assumption) ?_
    apply Exists.intro
    refine ⟨?_, ?_⟩
    · intro W0 hSw
      try dsimp only at hSw
      go_simp
      try (with_reducible rfl)
    try simp only [Act.put, List.setIfInBounds_toArray, List.set_cons_zero, List.set_cons_succ]
    refine take_on (i := 3) (by (simp only [List.getElem?_toArray, List.getElem?_cons_succ, List.getElem?_cons_zero]) <;> rfl) (by kernel_rfl) (by kernel_rfl) (by kernel_rfl) (by intro _ _ _ _ h; exact h) (by rfl) (by assumption) ?_
    apply Exists.intro
    refine ⟨?_, ?_⟩
    · intro W0 hSw
      try dsimp only at hSw
      go_simp
      try (with_reducible rfl)
    try simp only [Act.put, List.setIfInBounds_toArray, List.set_cons_zero, List.set_cons_succ]
    refine take_on (i := 4) (by (simp only [List.getElem?_toArray, List.getElem?_cons_succ, List.getElem?_cons_zero]) <;> rfl) (by kernel_rfl) (by kernel_rfl) (by kernel_rfl) (by intro _ _ _ _ h; exact h) (by rfl) (by assumption) ?_
    apply Exists.intro
    refine ⟨?_, ?_⟩
    · intro W0 hSw
      try dsimp only at hSw
      go_simp
      try (with_reducible rfl)
    try simp only [Act.put, List.setIfInBounds_toArray, List.set_cons_zero, List.set_cons_succ]
    refine take_on (i := 5) (by (simp only [List.getElem?_toArray, List.getElem?_cons_succ, List.getElem?_cons_zero]) <;> rfl) (by kernel_rfl) (by kernel_rfl) (by kernel_rfl) (by intro _ _ _ _ h; exact h) (by rfl) (by assumption) ?_
    apply Exists.intro
    refine ⟨?_, ?_⟩
    · intro W0 hSw
      try dsimp only at hSw
      go_simp
      try (with_reducible rfl)
    try simp only [Act.put, List.setIfInBounds_toArray, List.set_cons_zero, List.set_cons_succ]
    refine take_on (i := 6) (by (simp only [List.getElem?_toArray, List.getElem?_cons_succ, List.getElem?_cons_zero]) <;> rfl) (by kernel_rfl) (by kernel_rfl) (by kernel_rfl) (by intro _ _ _ _ h; exact h) (by rfl) (by assumption) ?_
    apply Exists.intro
    refine ⟨?_, ?_⟩
    · intro W0 hSw
      try dsimp only at hSw
      go_simp
      try (with_reducible rfl)
    try simp only [Act.put, List.setIfInBounds_toArray, List.set_cons_zero, List.set_cons_succ]
    refine take_on (i := 7) (by (simp only [List.getElem?_toArray, List.getElem?_cons_succ, List.getElem?_cons_zero]) <;> rfl) (by kernel_rfl) (by kernel_rfl) (by kernel_rfl) (by intro _ _ _ _ h; exact h) (by rfl) (by assumption) ?_
    apply Exists.intro
    refine ⟨?_, ?_⟩
    · intro W0 hSw
      try dsimp only at hSw
      go_simp
      try (with_reducible rfl)
    try simp only [Act.put, List.setIfInBounds_toArray, List.set_cons_zero, List.set_cons_succ]
    refine take_on (i := 8) (by (simp only [List.getElem?_toArray, List.getElem?_cons_succ, List.getElem?_cons_zero]) <;> rfl) (by kernel_rfl) (by kernel_rfl) (by kernel_rfl) (by intro _ _ _ _ h; exact h) (by rfl) (by assumption) ?_
    apply Exists.intro
    refine ⟨?_, ?_⟩
    · intro W0 hSw
      try dsimp only at hSw
      go_simp
      try (with_reducible rfl)
    try simp only [Act.put, List.setIfInBounds_toArray, List.set_cons_zero, List.set_cons_succ]
    refine take_on (i := 9) (by (simp only [List.getElem?_toArray, List.getElem?_cons_succ, List.getElem?_cons_zero]) <;> rfl) (by kernel_rfl) (by kernel_rfl) (by kernel_rfl) (by intro _ _ _ _ h; exact h) (by rfl) (by assumption) ?_
    apply Exists.intro
    refine ⟨?_, ?_⟩
    · intro W0 hSw
      try dsimp only at hSw
      go_simp
      try (with_reducible rfl)
    try simp only [Act.put, List.setIfInBounds_toArray, List.set_cons_zero, List.set_cons_succ]
    refine wpAnyH_ready (rs := [10]) (by kernel_rfl) (by simp) ?_
    refine (AllReadyH.cons (by (simp only [List.getElem?_toArray, List.getElem?_cons_succ, List.getElem?_cons_zero]) <;> rfl) (fun K hK => ?_) AllReadyH.nil)
    go_simp
    refine (MC _ (EV.at_mem (by simp)) (EV.at_mem (by simp))).mono ?_
    rintro e w7 ⟨rfl, B7⟩
    replace EV := EV.below B7
    have hkeep := And.intro (EV.cell 3 rfl 0 rfl) (And.intro (EV.cell 0 rfl 10 rfl) (EV.cell 0 rfl 18 rfl))
    go_wp2_with fail
    refine hK.out _ _ ?_ (fun hHeld => ?_)
    · (try dsimp only)
      first | (exact hkeep) | (exact ⟨EK.drew.cell 3 rfl 0 rfl, EK.drew.cell 0 rfl 10 rfl, EK.drew.cell 0 rfl 18 rfl⟩)
    clear hK K
    try simp only [Act.put, List.setIfInBounds_toArray, List.set_cons_zero, List.set_cons_succ]
    refine take_on (i := 11) (by (simp only [List.getElem?_toArray, List.getElem?_cons_succ, List.getElem?_cons_zero]) <;> rfl) (by kernel_rfl) (by kernel_rfl) (by kernel_rfl) (by intro _ _ _ _ h; exact h) (by rfl) (by assumption) ?_
    apply Exists.intro
    refine ⟨?_, ?_⟩
    · intro W0 hSw
      try dsimp only at hSw
      go_simp
      try (with_reducible rfl)
    try simp only [Act.put, List.setIfInBounds_toArray, List.set_cons_zero, List.set_cons_succ]
    refine wpAnyH_done (by kernel_rfl) ?_ _
    clear EK hHeld hkeep MC
    have E7 := EV
    clear EV
    go_upto_region 8 with fail
    have EV := E7.drew
    rcases Int.decEq te 0 with h0 | h0
    · have HE : Hid ((⟨t, x, o, v, r⟩ : SArg).makE = te) := by unfold Hid; rw [HK2.out, FT.out, if_pos h0]
      have H0 := Lib.hid h0
      have t1 : (te != 0) = true := by simpa using h0
      refine wp_region_held_drew (S := (fun V => V.cell? ⟨b6, 1, none⟩ = some (.int .i64 x.per) ∧ V.cell? ⟨b6, 2, none⟩ = some (.int .i64 x.book) ∧ V.cell? ⟨b6, 3, none⟩ = some (.int .i64 x.perm) ∧ V.cell? ⟨b6, 5, none⟩ = some (.int .i64 x.cap) ∧ V.cell? ⟨b6, 6, none⟩ = some (.int .i64 x.life) ∧ V.cell? ⟨b13, 0, none⟩ = some (.pointer (some ⟨bp, 0, none⟩)) ∧ V.cell? ⟨bp, 8, none⟩ = some (.int .i64 rt))) (by kernel_rfl) ?_ (fun hHeld => ?_)
      · (try dsimp only)
        first | (exact ⟨E7.drew.cell 5 rfl 1 rfl, E7.drew.cell 5 rfl 2 rfl, E7.drew.cell 5 rfl 3 rfl, E7.drew.cell 5 rfl 5 rfl, E7.drew.cell 5 rfl 6 rfl, E7.drew.cell 3 rfl 0 rfl, E7.drew.cell 0 rfl 8 rfl⟩)
      refine take_on (i := 0) (by (simp only [List.getElem?_toArray, List.getElem?_cons_succ, List.getElem?_cons_zero]) <;> rfl) (by kernel_rfl) (by kernel_rfl) (by kernel_rfl) (by intro _ _ _ _ h; exact h) (by rfl) (by assumption) ?_
      apply Exists.intro
      refine ⟨?_, ?_⟩
      · intro W0 hSw
        try dsimp only at hSw
        go_simp
        try (with_reducible rfl)
      try simp only [Act.put, List.setIfInBounds_toArray, List.set_cons_zero, List.set_cons_succ]
      refine take_on (i := 1) (by (simp only [List.getElem?_toArray, List.getElem?_cons_succ, List.getElem?_cons_zero]) <;> rfl) (by kernel_rfl) (by kernel_rfl) (by kernel_rfl) (by intro _ _ _ _ h; exact h) (by rfl) (by assumption) ?_
      apply Exists.intro
      refine ⟨?_, ?_⟩
      · intro W0 hSw
        try dsimp only at hSw
        go_simp
        try (with_reducible rfl)
      try simp only [Act.put, List.setIfInBounds_toArray, List.set_cons_zero, List.set_cons_succ]
      refine take_on (i := 2) (by (simp only [List.getElem?_toArray, List.getElem?_cons_succ, List.getElem?_cons_zero]) <;> rfl) (by kernel_rfl) (by kernel_rfl) (by kernel_rfl) (by intro _ _ _ _ h; exact h) (by rfl) (by assumption) ?_
      apply Exists.intro
      refine ⟨?_, ?_⟩
      · intro W0 hSw
        try dsimp only at hSw
        go_simp
        try (with_reducible rfl)
      try simp only [Act.put, List.setIfInBounds_toArray, List.set_cons_zero, List.set_cons_succ]
      refine take_on (i := 3) (by (simp only [List.getElem?_toArray, List.getElem?_cons_succ, List.getElem?_cons_zero]) <;> rfl) (by kernel_rfl) (by kernel_rfl) (by kernel_rfl) (by intro _ _ _ _ h; exact h) (by rfl) (by assumption) ?_
      apply Exists.intro
      refine ⟨?_, ?_⟩
      · intro W0 hSw
        try dsimp only at hSw
        go_simp
        try (with_reducible rfl)
      try simp only [Act.put, List.setIfInBounds_toArray, List.set_cons_zero, List.set_cons_succ]
      refine take_on (i := 4) (by (simp only [List.getElem?_toArray, List.getElem?_cons_succ, List.getElem?_cons_zero]) <;> rfl) (by kernel_rfl) (by kernel_rfl) (by kernel_rfl) (by intro _ _ _ _ h; exact h) (by rfl) (by assumption) ?_
      apply Exists.intro
      refine ⟨?_, ?_⟩
      · intro W0 hSw
        try dsimp only at hSw
        go_simp
        try (with_reducible rfl)
      try simp only [Act.put, List.setIfInBounds_toArray, List.set_cons_zero, List.set_cons_succ]
      refine take_on (i := 5) (by (simp only [List.getElem?_toArray, List.getElem?_cons_succ, List.getElem?_cons_zero]) <;> rfl) (by kernel_rfl) (by kernel_rfl) (by kernel_rfl) (by intro _ _ _ _ h; exact h) (by rfl) (by assumption) ?_
      apply Exists.intro
      refine ⟨?_, ?_⟩
      · intro W0 hSw
        try dsimp only at hSw
        go_simp
        try (with_reducible rfl)
      try simp only [Act.put, List.setIfInBounds_toArray, List.set_cons_zero, List.set_cons_succ]
      refine take_on (i := 6) (by (simp only [List.getElem?_toArray, List.getElem?_cons_succ, List.getElem?_cons_zero]) <;> rfl) (by kernel_rfl) (by kernel_rfl) (by kernel_rfl) (by intro _ _ _ _ h; exact h) (by rfl) (by assumption) ?_
      apply Exists.intro
      refine ⟨?_, ?_⟩
      · intro W0 hSw
        try dsimp only at hSw
        go_simp
        try (with_reducible rfl)
      try simp only [Act.put, List.setIfInBounds_toArray, List.set_cons_zero, List.set_cons_succ]
      refine take_on (i := 7) (by (simp only [List.getElem?_toArray, List.getElem?_cons_succ, List.getElem?_cons_zero]) <;> rfl) (by kernel_rfl) (by kernel_rfl) (by kernel_rfl) (by intro _ _ _ _ h; exact h) (by rfl) (by assumption) ?_
      apply Exists.intro
      refine ⟨?_, ?_⟩
      · intro W0 hSw
        try dsimp only at hSw
        go_simp
        try (with_reducible rfl)
      try simp only [Act.put, List.setIfInBounds_toArray, List.set_cons_zero, List.set_cons_succ]
      refine take_on (i := 8) (by (simp only [List.getElem?_toArray, List.getElem?_cons_succ, List.getElem?_cons_zero]) <;> rfl) (by kernel_rfl) (by kernel_rfl) (by kernel_rfl) (by intro _ _ _ _ h; exact h) (by rfl) (by assumption) ?_
      apply Exists.intro
      refine ⟨?_, ?_⟩
      · intro W0 hSw
        try dsimp only at hSw
        go_simp
        try (with_reducible rfl)
      try simp only [Act.put, List.setIfInBounds_toArray, List.set_cons_zero, List.set_cons_succ]
      refine take_on (i := 9) (by (simp only [List.getElem?_toArray, List.getElem?_cons_succ, List.getElem?_cons_zero]) <;> rfl) (by kernel_rfl) (by kernel_rfl) (by kernel_rfl) (by intro _ _ _ _ h; exact h) (by rfl) (by assumption) ?_
      apply Exists.intro
      refine ⟨?_, ?_⟩
      · intro W0 hSw
        try dsimp only at hSw
        go_simp
        try (with_reducible rfl)
      try simp only [Act.put, List.setIfInBounds_toArray, List.set_cons_zero, List.set_cons_succ]
      refine take_on (i := 10) (by (simp only [List.getElem?_toArray, List.getElem?_cons_succ, List.getElem?_cons_zero]) <;> rfl) (by kernel_rfl) (by kernel_rfl) (by kernel_rfl) (by intro _ _ _ _ h; exact h) (by rfl) (by assumption) ?_
      apply Exists.intro
      refine ⟨?_, ?_⟩
      · intro W0 hSw
        try dsimp only at hSw
        go_simp
        try (with_reducible rfl)
      try simp only [Act.put, List.setIfInBounds_toArray, List.set_cons_zero, List.set_cons_succ]
      refine take_on (i := 11) (by (simp only [List.getElem?_toArray, List.getElem?_cons_succ, List.getElem?_cons_zero]) <;> rfl) (by kernel_rfl) (by kernel_rfl) (by kernel_rfl) (by intro _ _ _ _ h; exact h) (by rfl) (by assumption) ?_
      apply Exists.intro
      refine ⟨?_, ?_⟩
      · intro W0 hSw
        try dsimp only at hSw
        go_simp
        try (with_reducible rfl)
      try simp only [Act.put, List.setIfInBounds_toArray, List.set_cons_zero, List.set_cons_succ]
      refine take_on (i := 13) (by (simp only [List.getElem?_toArray, List.getElem?_cons_succ, List.getElem?_cons_zero]) <;> rfl) (by kernel_rfl) (by kernel_rfl) (by kernel_rfl) (by intro _ _ _ _ h; exact h) (by rfl) (by assumption) ?_
      apply Exists.intro
      refine ⟨?_, ?_⟩
      · intro W0 hSw
        try dsimp only at hSw
        go_simp
        try (with_reducible rfl)
      try simp only [Act.put, List.setIfInBounds_toArray, List.set_cons_zero, List.set_cons_succ]
      refine take_on (i := 14) (by (simp only [List.getElem?_toArray, List.getElem?_cons_succ, List.getElem?_cons_zero]) <;> rfl) (by kernel_rfl) (by kernel_rfl) (by kernel_rfl) (by intro _ _ _ _ h; exact h) (by rfl) (by assumption) ?_
      apply Exists.intro
      refine ⟨?_, ?_⟩
      · intro W0 hSw
        try dsimp only at hSw
        go_simp
        try (with_reducible rfl)
      try simp only [Act.put, List.setIfInBounds_toArray, List.set_cons_zero, List.set_cons_succ]
      refine take_on (i := 15) (by (simp only [List.getElem?_toArray, List.getElem?_cons_succ, List.getElem?_cons_zero]) <;> rfl) (by kernel_rfl) (by kernel_rfl) (by kernel_rfl) (by intro _ _ _ _ h; exact h) (by rfl) (by assumption) ?_
      apply Exists.intro
      refine ⟨?_, ?_⟩
      · intro W0 hSw
        try dsimp only at hSw
        go_simp
        try (with_reducible rfl)
      try simp only [Act.put, List.setIfInBounds_toArray, List.set_cons_zero, List.set_cons_succ]
      refine take_on (i := 16) (by (simp only [List.getElem?_toArray, List.getElem?_cons_succ, List.getElem?_cons_zero]) <;> rfl) (by kernel_rfl) (by kernel_rfl) (by kernel_rfl) (by intro _ _ _ _ h; exact h) (by rfl) (by assumption) ?_
      apply Exists.intro
      refine ⟨?_, ?_⟩
      · intro W0 hSw
        try dsimp only at hSw
        go_simp
        try (with_reducible rfl)
      try simp only [Act.put, List.setIfInBounds_toArray, List.set_cons_zero, List.set_cons_succ]
      refine wpAnyH_ready (rs := [12, 22]) (by kernel_rfl) (by simp) ?_
      refine (AllReadyH.cons (by (simp only [List.getElem?_toArray, List.getElem?_cons_succ, List.getElem?_cons_zero]) <;> rfl) (fun K hK => ?_) (AllReadyH.cons (by (simp only [List.getElem?_toArray, List.getElem?_cons_succ, List.getElem?_cons_zero]) <;> rfl) (fun K hK => ?_) AllReadyH.nil))
      · go_simp
        refine (YC _).mono ?_
        rintro e w' ⟨rfl, rfl⟩
        have hkeep := hHeld
        go_wp2_with fail
        refine hK.out _ _ ?_ (fun hHeld => ?_)
        · (try dsimp only)
          first | (exact hkeep) | (exact ⟨E7.drew.cell 5 rfl 1 rfl, E7.drew.cell 5 rfl 2 rfl, E7.drew.cell 5 rfl 3 rfl, E7.drew.cell 5 rfl 5 rfl, E7.drew.cell 5 rfl 6 rfl, E7.drew.cell 3 rfl 0 rfl, E7.drew.cell 0 rfl 8 rfl⟩)
        clear hK K
        try simp only [Act.put, List.setIfInBounds_toArray, List.set_cons_zero, List.set_cons_succ]
        refine wpAnyH_ready (rs := [17, 22]) (by kernel_rfl) (by simp) ?_
        refine (AllReadyH.cons (by (simp only [List.getElem?_toArray, List.getElem?_cons_succ, List.getElem?_cons_zero]) <;> rfl) (fun K hK => ?_) (AllReadyH.cons (by (simp only [List.getElem?_toArray, List.getElem?_cons_succ, List.getElem?_cons_zero]) <;> rfl) (fun K hK => ?_) AllReadyH.nil))
        · go_simp
          refine (CT _ EV.low).mono ?_
          rintro e w8 hT
          rcases hT with ⟨_, rfl, B8⟩ | ⟨h1, _⟩
          case inr => exact absurd h1 H0.out
          replace EV := EV.below B8
          have hkeep := And.intro (EV.cell 5 rfl 1 rfl) (And.intro (EV.cell 5 rfl 2 rfl) (And.intro (EV.cell 5 rfl 3 rfl) (And.intro (EV.cell 5 rfl 5 rfl) (And.intro (EV.cell 5 rfl 6 rfl) (And.intro (EV.cell 3 rfl 0 rfl) (EV.cell 0 rfl 8 rfl))))))
          unfold noRes
          go_wp2_with fail
          refine hK.out _ _ ?_ (fun hHeld => ?_)
          · (try dsimp only)
            first | (exact hkeep) | (exact ⟨E7.drew.cell 5 rfl 1 rfl, E7.drew.cell 5 rfl 2 rfl, E7.drew.cell 5 rfl 3 rfl, E7.drew.cell 5 rfl 5 rfl, E7.drew.cell 5 rfl 6 rfl, E7.drew.cell 3 rfl 0 rfl, E7.drew.cell 0 rfl 8 rfl⟩)
          clear hK K
          try simp only [Act.put, List.setIfInBounds_toArray, List.set_cons_zero, List.set_cons_succ]
          refine take_on (i := 18) (by (simp only [List.getElem?_toArray, List.getElem?_cons_succ, List.getElem?_cons_zero]) <;> rfl) (by kernel_rfl) (by kernel_rfl) (by kernel_rfl) (by intro _ _ _ _ h; exact h) (by rfl) (by assumption) ?_
          apply Exists.intro
          refine ⟨?_, ?_⟩
          · intro W0 hSw
            try dsimp only at hSw
            go_simp
            try (with_reducible rfl)
          try simp only [Act.put, List.setIfInBounds_toArray, List.set_cons_zero, List.set_cons_succ]
          refine take_on (i := 19) (by (simp only [List.getElem?_toArray, List.getElem?_cons_succ, List.getElem?_cons_zero]) <;> rfl) (by kernel_rfl) (by kernel_rfl) (by kernel_rfl) (by intro _ _ _ _ h; exact h) (by rfl) (by assumption) ?_
          apply Exists.intro
          refine ⟨?_, ?_⟩
          · intro W0 hSw
            try dsimp only at hSw
            go_simp
            try (with_reducible rfl)
          try simp only [Act.put, List.setIfInBounds_toArray, List.set_cons_zero, List.set_cons_succ]
          refine take_on (i := 20) (by (simp only [List.getElem?_toArray, List.getElem?_cons_succ, List.getElem?_cons_zero]) <;> rfl) (by kernel_rfl) (by kernel_rfl) (by kernel_rfl) (by intro _ _ _ _ h; exact h) (by rfl) (by assumption) ?_
          apply Exists.intro
          refine ⟨?_, ?_⟩
          · intro W0 hSw
            try dsimp only at hSw
            go_simp
            try (with_reducible rfl)
          try simp only [Act.put, List.setIfInBounds_toArray, List.set_cons_zero, List.set_cons_succ]
          refine take_on (i := 21) (by (simp only [List.getElem?_toArray, List.getElem?_cons_succ, List.getElem?_cons_zero]) <;> rfl) (by kernel_rfl) (by kernel_rfl) (by kernel_rfl) (by intro _ _ _ _ h; exact h) (by rfl) (by assumption) ?_
          apply Exists.intro
          refine ⟨?_, ?_⟩
          · intro W0 hSw
            try dsimp only at hSw
            go_simp
            try (with_reducible rfl)
          try simp only [Act.put, List.setIfInBounds_toArray, List.set_cons_zero, List.set_cons_succ]
          refine wpAnyH_ready (rs := [22]) (by kernel_rfl) (by simp) ?_
          refine (AllReadyH.cons (by (simp only [List.getElem?_toArray, List.getElem?_cons_succ, List.getElem?_cons_zero]) <;> rfl) (fun K hK => ?_) AllReadyH.nil)
          go_simp
          refine abs_env (EV.box1 [.int .i64 0, .int .i64 0, .int .i64 0, .int .i64 0, .int .i64 0, .int .i64 0, .slice none 0 0] 39) (fun W8 EV => ?_)
          have hkeep := And.intro (EV.cell 6 rfl 1 rfl) (And.intro (EV.cell 6 rfl 2 rfl) (And.intro (EV.cell 6 rfl 3 rfl) (And.intro (EV.cell 6 rfl 5 rfl) (And.intro (EV.cell 6 rfl 6 rfl) (And.intro (EV.cell 4 rfl 0 rfl) (EV.cell 0 rfl 8 rfl))))))
          refine hK.out _ _ ?_ (fun hHeld => ?_)
          · (try dsimp only)
            first | (exact hkeep) | (exact ⟨E7.drew.cell 5 rfl 1 rfl, E7.drew.cell 5 rfl 2 rfl, E7.drew.cell 5 rfl 3 rfl, E7.drew.cell 5 rfl 5 rfl, E7.drew.cell 5 rfl 6 rfl, E7.drew.cell 3 rfl 0 rfl, E7.drew.cell 0 rfl 8 rfl⟩)
          clear hK K
          try simp only [Act.put, List.setIfInBounds_toArray, List.set_cons_zero, List.set_cons_succ]
          refine wpAnyH_ready (rs := [23]) (by kernel_rfl) (by simp) ?_
          refine (AllReadyH.cons (by (simp only [List.getElem?_toArray, List.getElem?_cons_succ, List.getElem?_cons_zero]) <;> rfl) (fun K hK => ?_) AllReadyH.nil)
          refine wp_store_env EV 1 rfl 39 _ _ rfl 0 [.int .i64 0, .int .i64 0, .int .i64 0, .int .i64 0, .int .i64 0, .int .i64 0, .slice none 0 0] rfl rfl (by simp) (by kernel_rfl) (by simp [Value.oneCell']) (fun W9 EV => ?_)
          simp at EV
          have hkeep := And.intro (EV.cell 6 rfl 1 rfl) (And.intro (EV.cell 6 rfl 2 rfl) (And.intro (EV.cell 6 rfl 3 rfl) (And.intro (EV.cell 6 rfl 5 rfl) (And.intro (EV.cell 6 rfl 6 rfl) (And.intro (EV.cell 4 rfl 0 rfl) (EV.cell 0 rfl 8 rfl))))))
          refine hK.out _ _ ?_ (fun hHeld => ?_)
          · (try dsimp only)
            first | (exact hkeep) | (exact ⟨E7.drew.cell 5 rfl 1 rfl, E7.drew.cell 5 rfl 2 rfl, E7.drew.cell 5 rfl 3 rfl, E7.drew.cell 5 rfl 5 rfl, E7.drew.cell 5 rfl 6 rfl, E7.drew.cell 3 rfl 0 rfl, E7.drew.cell 0 rfl 8 rfl⟩)
          clear hK K
          try simp only [Act.put, List.setIfInBounds_toArray, List.set_cons_zero, List.set_cons_succ]
          refine take_on (i := 24) (by (simp only [List.getElem?_toArray, List.getElem?_cons_succ, List.getElem?_cons_zero]) <;> rfl) (by kernel_rfl) (by kernel_rfl) (by kernel_rfl) (by intro _ _ _ _ h; exact h) (by rfl) (by assumption) ?_
          apply Exists.intro
          refine ⟨?_, ?_⟩
          · intro W0 hSw
            try dsimp only at hSw
            go_simp
            try (with_reducible rfl)
          try simp only [Act.put, List.setIfInBounds_toArray, List.set_cons_zero, List.set_cons_succ]
          refine take_on (i := 25) (by (simp only [List.getElem?_toArray, List.getElem?_cons_succ, List.getElem?_cons_zero]) <;> rfl) (by kernel_rfl) (by kernel_rfl) (by kernel_rfl) (by intro _ _ _ _ h; exact h) (by rfl) (by assumption) ?_
          apply Exists.intro
          refine ⟨?_, ?_⟩
          · intro W0 hSw
            try dsimp only at hSw
            go_simp
            try (with_reducible rfl)
          try simp only [Act.put, List.setIfInBounds_toArray, List.set_cons_zero, List.set_cons_succ]
          refine wpAnyH_done (by kernel_rfl) ?_ _
          have E9 := EV.pick (h := Hp.box b10 [.string ⟨#[]⟩, .int .i64 0, .int .i64 0, .int .i64 0, .int .i64 0, .int .i64 0, .int .i64 0, .int .i64 0, .int .i64 0, .int .i64 0, .slice none 0 0, .slice none 0 0, .int .i64 0, .int .i64 0, .int .i64 0, .int .i64 0, .int .i64 0, .int .i64 0, .slice none 0 0, .slice none 0 0, .int .i64 0, .int .i64 0, .int .i64 0, .int .i64 0, .int .i64 0, .int .i64 0, .int .i64 0, .int .i64 0, .int .i64 0, .int .i64 0, .int .i64 0, .slice none 0 0, .slice none 0 0, .slice none 0 0, .int .i64 0, .int .i64 0, .int .i64 0, .int .i64 0, .int .i64 0, .int .i64 0, .int .i64 0] 44) (by simp)
          clear h0
          go_wp2_with (refine wpList_store_env rfl E9 0 rfl 44 _ _ rfl 0 [.string ⟨#[]⟩, .int .i64 0, .int .i64 0, .int .i64 0, .int .i64 0, .int .i64 0, .int .i64 0, .int .i64 0, .int .i64 0, .int .i64 0, .slice none 0 0, .slice none 0 0, .int .i64 0, .int .i64 0, .int .i64 0, .int .i64 0, .int .i64 0, .int .i64 0, .slice none 0 0, .slice none 0 0, .int .i64 0, .int .i64 0, .int .i64 0, .int .i64 0, .int .i64 0, .int .i64 0, .int .i64 0, .int .i64 0, .int .i64 0, .int .i64 0, .int .i64 0, .slice none 0 0, .slice none 0 0, .slice none 0 0, .int .i64 0, .int .i64 0, .int .i64 0, .int .i64 0, .int .i64 0, .int .i64 0, .int .i64 0] rfl rfl (by simp) (by kernel_rfl) (by simp [Value.oneCell']) ?_; intro W10 E10)
          simp at E10
          exact HRET.out _ _ _ 0 _ _ E10 rfl rfl rfl rfl HE.out H0.out
        · go_simp
          refine abs_env (EV.box1 [.int .i64 0, .int .i64 0, .int .i64 0, .int .i64 0, .int .i64 0, .int .i64 0, .slice none 0 0] 39) (fun W8 EV => ?_)
          have hkeep := And.intro (EV.cell 6 rfl 1 rfl) (And.intro (EV.cell 6 rfl 2 rfl) (And.intro (EV.cell 6 rfl 3 rfl) (And.intro (EV.cell 6 rfl 5 rfl) (And.intro (EV.cell 6 rfl 6 rfl) (And.intro (EV.cell 4 rfl 0 rfl) (EV.cell 0 rfl 8 rfl))))))
          refine hK.out _ _ ?_ (fun hHeld => ?_)
          · (try dsimp only)
            first | (exact hkeep) | (exact ⟨E7.drew.cell 5 rfl 1 rfl, E7.drew.cell 5 rfl 2 rfl, E7.drew.cell 5 rfl 3 rfl, E7.drew.cell 5 rfl 5 rfl, E7.drew.cell 5 rfl 6 rfl, E7.drew.cell 3 rfl 0 rfl, E7.drew.cell 0 rfl 8 rfl⟩)
          clear hK K
          try simp only [Act.put, List.setIfInBounds_toArray, List.set_cons_zero, List.set_cons_succ]
          refine wpAnyH_ready (rs := [17]) (by kernel_rfl) (by simp) ?_
          refine (AllReadyH.cons (by (simp only [List.getElem?_toArray, List.getElem?_cons_succ, List.getElem?_cons_zero]) <;> rfl) (fun K hK => ?_) AllReadyH.nil)
          go_simp
          refine (CT _ EV.low).mono ?_
          rintro e w8 hT
          rcases hT with ⟨_, rfl, B8⟩ | ⟨h1, _⟩
          case inr => exact absurd h1 H0.out
          replace EV := EV.below B8
          have hkeep := And.intro (EV.cell 6 rfl 1 rfl) (And.intro (EV.cell 6 rfl 2 rfl) (And.intro (EV.cell 6 rfl 3 rfl) (And.intro (EV.cell 6 rfl 5 rfl) (And.intro (EV.cell 6 rfl 6 rfl) (And.intro (EV.cell 4 rfl 0 rfl) (EV.cell 0 rfl 8 rfl))))))
          unfold noRes
          go_wp2_with fail
          refine hK.out _ _ ?_ (fun hHeld => ?_)
          · (try dsimp only)
            first | (exact hkeep) | (exact ⟨E7.drew.cell 5 rfl 1 rfl, E7.drew.cell 5 rfl 2 rfl, E7.drew.cell 5 rfl 3 rfl, E7.drew.cell 5 rfl 5 rfl, E7.drew.cell 5 rfl 6 rfl, E7.drew.cell 3 rfl 0 rfl, E7.drew.cell 0 rfl 8 rfl⟩)
          clear hK K
          try simp only [Act.put, List.setIfInBounds_toArray, List.set_cons_zero, List.set_cons_succ]
          refine take_on (i := 18) (by (simp only [List.getElem?_toArray, List.getElem?_cons_succ, List.getElem?_cons_zero]) <;> rfl) (by kernel_rfl) (by kernel_rfl) (by kernel_rfl) (by intro _ _ _ _ h; exact h) (by rfl) (by assumption) ?_
          apply Exists.intro
          refine ⟨?_, ?_⟩
          · intro W0 hSw
            try dsimp only at hSw
            go_simp
            try (with_reducible rfl)
          try simp only [Act.put, List.setIfInBounds_toArray, List.set_cons_zero, List.set_cons_succ]
          refine take_on (i := 19) (by (simp only [List.getElem?_toArray, List.getElem?_cons_succ, List.getElem?_cons_zero]) <;> rfl) (by kernel_rfl) (by kernel_rfl) (by kernel_rfl) (by intro _ _ _ _ h; exact h) (by rfl) (by assumption) ?_
          apply Exists.intro
          refine ⟨?_, ?_⟩
          · intro W0 hSw
            try dsimp only at hSw
            go_simp
            try (with_reducible rfl)
          try simp only [Act.put, List.setIfInBounds_toArray, List.set_cons_zero, List.set_cons_succ]
          refine take_on (i := 20) (by (simp only [List.getElem?_toArray, List.getElem?_cons_succ, List.getElem?_cons_zero]) <;> rfl) (by kernel_rfl) (by kernel_rfl) (by kernel_rfl) (by intro _ _ _ _ h; exact h) (by rfl) (by assumption) ?_
          apply Exists.intro
          refine ⟨?_, ?_⟩
          · intro W0 hSw
            try dsimp only at hSw
            go_simp
            try (with_reducible rfl)
          try simp only [Act.put, List.setIfInBounds_toArray, List.set_cons_zero, List.set_cons_succ]
          refine take_on (i := 21) (by (simp only [List.getElem?_toArray, List.getElem?_cons_succ, List.getElem?_cons_zero]) <;> rfl) (by kernel_rfl) (by kernel_rfl) (by kernel_rfl) (by intro _ _ _ _ h; exact h) (by rfl) (by assumption) ?_
          apply Exists.intro
          refine ⟨?_, ?_⟩
          · intro W0 hSw
            try dsimp only at hSw
            go_simp
            try (with_reducible rfl)
          try simp only [Act.put, List.setIfInBounds_toArray, List.set_cons_zero, List.set_cons_succ]
          refine wpAnyH_ready (rs := [23]) (by kernel_rfl) (by simp) ?_
          refine (AllReadyH.cons (by (simp only [List.getElem?_toArray, List.getElem?_cons_succ, List.getElem?_cons_zero]) <;> rfl) (fun K hK => ?_) AllReadyH.nil)
          refine wp_store_env EV 1 rfl 39 _ _ rfl 0 [.int .i64 0, .int .i64 0, .int .i64 0, .int .i64 0, .int .i64 0, .int .i64 0, .slice none 0 0] rfl rfl (by simp) (by kernel_rfl) (by simp [Value.oneCell']) (fun W9 EV => ?_)
          simp at EV
          have hkeep := And.intro (EV.cell 6 rfl 1 rfl) (And.intro (EV.cell 6 rfl 2 rfl) (And.intro (EV.cell 6 rfl 3 rfl) (And.intro (EV.cell 6 rfl 5 rfl) (And.intro (EV.cell 6 rfl 6 rfl) (And.intro (EV.cell 4 rfl 0 rfl) (EV.cell 0 rfl 8 rfl))))))
          refine hK.out _ _ ?_ (fun hHeld => ?_)
          · (try dsimp only)
            first | (exact hkeep) | (exact ⟨E7.drew.cell 5 rfl 1 rfl, E7.drew.cell 5 rfl 2 rfl, E7.drew.cell 5 rfl 3 rfl, E7.drew.cell 5 rfl 5 rfl, E7.drew.cell 5 rfl 6 rfl, E7.drew.cell 3 rfl 0 rfl, E7.drew.cell 0 rfl 8 rfl⟩)
          clear hK K
          try simp only [Act.put, List.setIfInBounds_toArray, List.set_cons_zero, List.set_cons_succ]
          refine take_on (i := 24) (by (simp only [List.getElem?_toArray, List.getElem?_cons_succ, List.getElem?_cons_zero]) <;> rfl) (by kernel_rfl) (by kernel_rfl) (by kernel_rfl) (by intro _ _ _ _ h; exact h) (by rfl) (by assumption) ?_
          apply Exists.intro
          refine ⟨?_, ?_⟩
          · intro W0 hSw
            try dsimp only at hSw
            go_simp
            try (with_reducible rfl)
          try simp only [Act.put, List.setIfInBounds_toArray, List.set_cons_zero, List.set_cons_succ]
          refine take_on (i := 25) (by (simp only [List.getElem?_toArray, List.getElem?_cons_succ, List.getElem?_cons_zero]) <;> rfl) (by kernel_rfl) (by kernel_rfl) (by kernel_rfl) (by intro _ _ _ _ h; exact h) (by rfl) (by assumption) ?_
          apply Exists.intro
          refine ⟨?_, ?_⟩
          · intro W0 hSw
            try dsimp only at hSw
            go_simp
            try (with_reducible rfl)
          try simp only [Act.put, List.setIfInBounds_toArray, List.set_cons_zero, List.set_cons_succ]
          refine wpAnyH_done (by kernel_rfl) ?_ _
          have E9 := EV.pick (h := Hp.box b10 [.string ⟨#[]⟩, .int .i64 0, .int .i64 0, .int .i64 0, .int .i64 0, .int .i64 0, .int .i64 0, .int .i64 0, .int .i64 0, .int .i64 0, .slice none 0 0, .slice none 0 0, .int .i64 0, .int .i64 0, .int .i64 0, .int .i64 0, .int .i64 0, .int .i64 0, .slice none 0 0, .slice none 0 0, .int .i64 0, .int .i64 0, .int .i64 0, .int .i64 0, .int .i64 0, .int .i64 0, .int .i64 0, .int .i64 0, .int .i64 0, .int .i64 0, .int .i64 0, .slice none 0 0, .slice none 0 0, .slice none 0 0, .int .i64 0, .int .i64 0, .int .i64 0, .int .i64 0, .int .i64 0, .int .i64 0, .int .i64 0] 44) (by simp)
          clear h0
          go_wp2_with (refine wpList_store_env rfl E9 0 rfl 44 _ _ rfl 0 [.string ⟨#[]⟩, .int .i64 0, .int .i64 0, .int .i64 0, .int .i64 0, .int .i64 0, .int .i64 0, .int .i64 0, .int .i64 0, .int .i64 0, .slice none 0 0, .slice none 0 0, .int .i64 0, .int .i64 0, .int .i64 0, .int .i64 0, .int .i64 0, .int .i64 0, .slice none 0 0, .slice none 0 0, .int .i64 0, .int .i64 0, .int .i64 0, .int .i64 0, .int .i64 0, .int .i64 0, .int .i64 0, .int .i64 0, .int .i64 0, .int .i64 0, .int .i64 0, .slice none 0 0, .slice none 0 0, .slice none 0 0, .int .i64 0, .int .i64 0, .int .i64 0, .int .i64 0, .int .i64 0, .int .i64 0, .int .i64 0] rfl rfl (by simp) (by kernel_rfl) (by simp [Value.oneCell']) ?_; intro W10 E10)
          simp at E10
          exact HRET.out _ _ _ 0 _ _ E10 rfl rfl rfl rfl HE.out H0.out
      · go_simp
        refine abs_env (EV.box1 [.int .i64 0, .int .i64 0, .int .i64 0, .int .i64 0, .int .i64 0, .int .i64 0, .slice none 0 0] 39) (fun W8 EV => ?_)
        have hkeep := And.intro (EV.cell 6 rfl 1 rfl) (And.intro (EV.cell 6 rfl 2 rfl) (And.intro (EV.cell 6 rfl 3 rfl) (And.intro (EV.cell 6 rfl 5 rfl) (And.intro (EV.cell 6 rfl 6 rfl) (And.intro (EV.cell 4 rfl 0 rfl) (EV.cell 0 rfl 8 rfl))))))
        refine hK.out _ _ ?_ (fun hHeld => ?_)
        · (try dsimp only)
          first | (exact hkeep) | (exact ⟨E7.drew.cell 5 rfl 1 rfl, E7.drew.cell 5 rfl 2 rfl, E7.drew.cell 5 rfl 3 rfl, E7.drew.cell 5 rfl 5 rfl, E7.drew.cell 5 rfl 6 rfl, E7.drew.cell 3 rfl 0 rfl, E7.drew.cell 0 rfl 8 rfl⟩)
        clear hK K
        try simp only [Act.put, List.setIfInBounds_toArray, List.set_cons_zero, List.set_cons_succ]
        refine wpAnyH_ready (rs := [12]) (by kernel_rfl) (by simp) ?_
        refine (AllReadyH.cons (by (simp only [List.getElem?_toArray, List.getElem?_cons_succ, List.getElem?_cons_zero]) <;> rfl) (fun K hK => ?_) AllReadyH.nil)
        go_simp
        refine (YC _).mono ?_
        rintro e w' ⟨rfl, rfl⟩
        have hkeep := hHeld
        go_wp2_with fail
        refine hK.out _ _ ?_ (fun hHeld => ?_)
        · (try dsimp only)
          first | (exact hkeep) | (exact ⟨E7.drew.cell 5 rfl 1 rfl, E7.drew.cell 5 rfl 2 rfl, E7.drew.cell 5 rfl 3 rfl, E7.drew.cell 5 rfl 5 rfl, E7.drew.cell 5 rfl 6 rfl, E7.drew.cell 3 rfl 0 rfl, E7.drew.cell 0 rfl 8 rfl⟩)
        clear hK K
        try simp only [Act.put, List.setIfInBounds_toArray, List.set_cons_zero, List.set_cons_succ]
        refine wpAnyH_ready (rs := [17]) (by kernel_rfl) (by simp) ?_
        refine (AllReadyH.cons (by (simp only [List.getElem?_toArray, List.getElem?_cons_succ, List.getElem?_cons_zero]) <;> rfl) (fun K hK => ?_) AllReadyH.nil)
        go_simp
        refine (CT _ EV.low).mono ?_
        rintro e w8 hT
        rcases hT with ⟨_, rfl, B8⟩ | ⟨h1, _⟩
        case inr => exact absurd h1 H0.out
        replace EV := EV.below B8
        have hkeep := And.intro (EV.cell 6 rfl 1 rfl) (And.intro (EV.cell 6 rfl 2 rfl) (And.intro (EV.cell 6 rfl 3 rfl) (And.intro (EV.cell 6 rfl 5 rfl) (And.intro (EV.cell 6 rfl 6 rfl) (And.intro (EV.cell 4 rfl 0 rfl) (EV.cell 0 rfl 8 rfl))))))
        unfold noRes
        go_wp2_with fail
        refine hK.out _ _ ?_ (fun hHeld => ?_)
        · (try dsimp only)
          first | (exact hkeep) | (exact ⟨E7.drew.cell 5 rfl 1 rfl, E7.drew.cell 5 rfl 2 rfl, E7.drew.cell 5 rfl 3 rfl, E7.drew.cell 5 rfl 5 rfl, E7.drew.cell 5 rfl 6 rfl, E7.drew.cell 3 rfl 0 rfl, E7.drew.cell 0 rfl 8 rfl⟩)
        clear hK K
        try simp only [Act.put, List.setIfInBounds_toArray, List.set_cons_zero, List.set_cons_succ]
        refine take_on (i := 18) (by (simp only [List.getElem?_toArray, List.getElem?_cons_succ, List.getElem?_cons_zero]) <;> rfl) (by kernel_rfl) (by kernel_rfl) (by kernel_rfl) (by intro _ _ _ _ h; exact h) (by rfl) (by assumption) ?_
        apply Exists.intro
        refine ⟨?_, ?_⟩
        · intro W0 hSw
          try dsimp only at hSw
          go_simp
          try (with_reducible rfl)
        try simp only [Act.put, List.setIfInBounds_toArray, List.set_cons_zero, List.set_cons_succ]
        refine take_on (i := 19) (by (simp only [List.getElem?_toArray, List.getElem?_cons_succ, List.getElem?_cons_zero]) <;> rfl) (by kernel_rfl) (by kernel_rfl) (by kernel_rfl) (by intro _ _ _ _ h; exact h) (by rfl) (by assumption) ?_
        apply Exists.intro
        refine ⟨?_, ?_⟩
        · intro W0 hSw
          try dsimp only at hSw
          go_simp
          try (with_reducible rfl)
        try simp only [Act.put, List.setIfInBounds_toArray, List.set_cons_zero, List.set_cons_succ]
        refine take_on (i := 20) (by (simp only [List.getElem?_toArray, List.getElem?_cons_succ, List.getElem?_cons_zero]) <;> rfl) (by kernel_rfl) (by kernel_rfl) (by kernel_rfl) (by intro _ _ _ _ h; exact h) (by rfl) (by assumption) ?_
        apply Exists.intro
        refine ⟨?_, ?_⟩
        · intro W0 hSw
          try dsimp only at hSw
          go_simp
          try (with_reducible rfl)
        try simp only [Act.put, List.setIfInBounds_toArray, List.set_cons_zero, List.set_cons_succ]
        refine take_on (i := 21) (by (simp only [List.getElem?_toArray, List.getElem?_cons_succ, List.getElem?_cons_zero]) <;> rfl) (by kernel_rfl) (by kernel_rfl) (by kernel_rfl) (by intro _ _ _ _ h; exact h) (by rfl) (by assumption) ?_
        apply Exists.intro
        refine ⟨?_, ?_⟩
        · intro W0 hSw
          try dsimp only at hSw
          go_simp
          try (with_reducible rfl)
        try simp only [Act.put, List.setIfInBounds_toArray, List.set_cons_zero, List.set_cons_succ]
        refine wpAnyH_ready (rs := [23]) (by kernel_rfl) (by simp) ?_
        refine (AllReadyH.cons (by (simp only [List.getElem?_toArray, List.getElem?_cons_succ, List.getElem?_cons_zero]) <;> rfl) (fun K hK => ?_) AllReadyH.nil)
        refine wp_store_env EV 1 rfl 39 _ _ rfl 0 [.int .i64 0, .int .i64 0, .int .i64 0, .int .i64 0, .int .i64 0, .int .i64 0, .slice none 0 0] rfl rfl (by simp) (by kernel_rfl) (by simp [Value.oneCell']) (fun W9 EV => ?_)
        simp at EV
        have hkeep := And.intro (EV.cell 6 rfl 1 rfl) (And.intro (EV.cell 6 rfl 2 rfl) (And.intro (EV.cell 6 rfl 3 rfl) (And.intro (EV.cell 6 rfl 5 rfl) (And.intro (EV.cell 6 rfl 6 rfl) (And.intro (EV.cell 4 rfl 0 rfl) (EV.cell 0 rfl 8 rfl))))))
        refine hK.out _ _ ?_ (fun hHeld => ?_)
        · (try dsimp only)
          first | (exact hkeep) | (exact ⟨E7.drew.cell 5 rfl 1 rfl, E7.drew.cell 5 rfl 2 rfl, E7.drew.cell 5 rfl 3 rfl, E7.drew.cell 5 rfl 5 rfl, E7.drew.cell 5 rfl 6 rfl, E7.drew.cell 3 rfl 0 rfl, E7.drew.cell 0 rfl 8 rfl⟩)
        clear hK K
        try simp only [Act.put, List.setIfInBounds_toArray, List.set_cons_zero, List.set_cons_succ]
        refine take_on (i := 24) (by (simp only [List.getElem?_toArray, List.getElem?_cons_succ, List.getElem?_cons_zero]) <;> rfl) (by kernel_rfl) (by kernel_rfl) (by kernel_rfl) (by intro _ _ _ _ h; exact h) (by rfl) (by assumption) ?_
        apply Exists.intro
        refine ⟨?_, ?_⟩
        · intro W0 hSw
          try dsimp only at hSw
          go_simp
          try (with_reducible rfl)
        try simp only [Act.put, List.setIfInBounds_toArray, List.set_cons_zero, List.set_cons_succ]
        refine take_on (i := 25) (by (simp only [List.getElem?_toArray, List.getElem?_cons_succ, List.getElem?_cons_zero]) <;> rfl) (by kernel_rfl) (by kernel_rfl) (by kernel_rfl) (by intro _ _ _ _ h; exact h) (by rfl) (by assumption) ?_
        apply Exists.intro
        refine ⟨?_, ?_⟩
        · intro W0 hSw
          try dsimp only at hSw
          go_simp
          try (with_reducible rfl)
        try simp only [Act.put, List.setIfInBounds_toArray, List.set_cons_zero, List.set_cons_succ]
        refine wpAnyH_done (by kernel_rfl) ?_ _
        have E9 := EV.pick (h := Hp.box b10 [.string ⟨#[]⟩, .int .i64 0, .int .i64 0, .int .i64 0, .int .i64 0, .int .i64 0, .int .i64 0, .int .i64 0, .int .i64 0, .int .i64 0, .slice none 0 0, .slice none 0 0, .int .i64 0, .int .i64 0, .int .i64 0, .int .i64 0, .int .i64 0, .int .i64 0, .slice none 0 0, .slice none 0 0, .int .i64 0, .int .i64 0, .int .i64 0, .int .i64 0, .int .i64 0, .int .i64 0, .int .i64 0, .int .i64 0, .int .i64 0, .int .i64 0, .int .i64 0, .slice none 0 0, .slice none 0 0, .slice none 0 0, .int .i64 0, .int .i64 0, .int .i64 0, .int .i64 0, .int .i64 0, .int .i64 0, .int .i64 0] 44) (by simp)
        clear h0
        go_wp2_with (refine wpList_store_env rfl E9 0 rfl 44 _ _ rfl 0 [.string ⟨#[]⟩, .int .i64 0, .int .i64 0, .int .i64 0, .int .i64 0, .int .i64 0, .int .i64 0, .int .i64 0, .int .i64 0, .int .i64 0, .slice none 0 0, .slice none 0 0, .int .i64 0, .int .i64 0, .int .i64 0, .int .i64 0, .int .i64 0, .int .i64 0, .slice none 0 0, .slice none 0 0, .int .i64 0, .int .i64 0, .int .i64 0, .int .i64 0, .int .i64 0, .int .i64 0, .int .i64 0, .int .i64 0, .int .i64 0, .int .i64 0, .int .i64 0, .slice none 0 0, .slice none 0 0, .slice none 0 0, .int .i64 0, .int .i64 0, .int .i64 0, .int .i64 0, .int .i64 0, .int .i64 0, .int .i64 0] rfl rfl (by simp) (by kernel_rfl) (by simp [Value.oneCell']) ?_; intro W10 E10)
        simp at E10
        exact HRET.out _ _ _ 0 _ _ E10 rfl rfl rfl rfl HE.out H0.out
    subst h0
    have HK3 : Hid ((⟨t, x, o, v, r⟩ : SArg).makE = if (⟨t, x, o, v, r⟩ : SArg).balE ≠ 0 then (⟨t, x, o, v, r⟩ : SArg).balE else if (⟨t, x, o, v, r⟩ : SArg).chgE ≠ 0 then (⟨t, x, o, v, r⟩ : SArg).chgE else (⟨t, x, o, v, r⟩ : SArg).costE) := by unfold Hid; rw [HK2.out, FT.out]; rfl
    clear HK2
    obtain ⟨inc, hinc⟩ : ∃ z, Hid (incV x.book x.perm mov = z) := ⟨_, rfl⟩
    obtain ⟨vec, hvec⟩ : ∃ z, Hid (curVec v inc x.cap yr = z) := ⟨_, rfl⟩
    obtain ⟨left, hleft⟩ : ∃ z, Hid (curNext v inc x.cap x.life yr = z) := ⟨_, rfl⟩
    obtain ⟨gon, hgon⟩ : ∃ z, Hid (vGone v yr = z) := ⟨_, rfl⟩
    obtain ⟨usd, husd⟩ : ∃ z, Hid (vec.sum = z) := ⟨_, rfl⟩
    obtain ⟨new, hnew⟩ : ∃ z, Hid (curNew inc = z) := ⟨_, rfl⟩
    obtain ⟨txb, htxb⟩ : ∃ z, Hid (curTaxable v inc x.cap yr = z) := ⟨_, rfl⟩
    obtain ⟨tax, htax⟩ : ∃ z, Hid (ofVal txb rt = z) := ⟨_, rfl⟩
    unfold CurOk at CT
    rw [hinc.out, hvec.out, hleft.out, hgon.out, husd.out, hnew.out, htxb.out, htax.out] at CT
    go_cut [16, 17, 18] (fun p l q V => ∃ (b16 bl : Nat) (V' : Option Addr) (cv : Nat) (hl hv' : Hp), p = .pointer (some ⟨b16, 0, none⟩) ∧ l = .pointer (some ⟨bl, 0, none⟩) ∧ q = .int .i64 0 ∧ Vnt hl bl left ∧ Ow kInt hv' V' cv vec ∧ Env w V (Hp.box bp [.string x.j, .int .i64 x.per, .int .i64 x.book, .int .i64 x.perm, .int .i64 x.judge, .int .i64 x.cap, .int .i64 x.life, .int .i64 x.up, .int .i64 rt, .int .i64 o.per, .slice D o.xs.length cd, .slice G o.rs.length cg, .int .i64 o.nx, .int .i64 o.lf, .int .i64 o.tm, .int .i64 o.ls, .int .i64 o.al, .int .i64 x.per, .slice R r.length cr, .slice Q rats.length cq, .int .i64 nx, .int .i64 0, .int .i64 0, .int .i64 0, .int .i64 0, .int .i64 0, .int .i64 0, .int .i64 0, .int .i64 0, .int .i64 0, .int .i64 0, .slice none 0 0, .slice none 0 0, .slice none 0 0, .int .i64 0, .int .i64 0, .int .i64 0, .int .i64 0, .int .i64 0, .int .i64 0, .int .i64 0] 44 :: Hp.box b16 [.int .i64 inc, .int .i64 gon, .int .i64 usd, .int .i64 new, .int .i64 txb, .int .i64 tax, .slice V' vec.length cv] 39 :: hl :: hv' :: hq :: hR :: Hp.box b13 [.pointer (some ⟨bp, 0, none⟩)] 118 :: Hp.box b10 [.string ⟨#[]⟩, .int .i64 0, .int .i64 0, .int .i64 0, .int .i64 0, .int .i64 0, .int .i64 0, .int .i64 0, .int .i64 0, .int .i64 0, .slice none 0 0, .slice none 0 0, .int .i64 0, .int .i64 0, .int .i64 0, .int .i64 0, .int .i64 0, .int .i64 0, .slice none 0 0, .slice none 0 0, .int .i64 0, .int .i64 0, .int .i64 0, .int .i64 0, .int .i64 0, .int .i64 0, .int .i64 0, .int .i64 0, .int .i64 0, .int .i64 0, .int .i64 0, .slice none 0 0, .slice none 0 0, .slice none 0 0, .int .i64 0, .int .i64 0, .int .i64 0, .int .i64 0, .int .i64 0, .int .i64 0, .int .i64 0] 44 :: Hp.box b6 [.string x.j, .int .i64 x.per, .int .i64 x.book, .int .i64 x.perm, .int .i64 x.judge, .int .i64 x.cap, .int .i64 x.life, .int .i64 x.up] 31 :: Hp.box b5 [.pointer (some ⟨bt, 0, none⟩)] 22 :: hd :: hg :: []))
    case first =>
      refine wp_region_held_drew (S := (fun V => V.cell? ⟨b6, 1, none⟩ = some (.int .i64 x.per) ∧ V.cell? ⟨b6, 2, none⟩ = some (.int .i64 x.book) ∧ V.cell? ⟨b6, 3, none⟩ = some (.int .i64 x.perm) ∧ V.cell? ⟨b6, 5, none⟩ = some (.int .i64 x.cap) ∧ V.cell? ⟨b6, 6, none⟩ = some (.int .i64 x.life) ∧ V.cell? ⟨b13, 0, none⟩ = some (.pointer (some ⟨bp, 0, none⟩)) ∧ V.cell? ⟨bp, 8, none⟩ = some (.int .i64 rt))) (by kernel_rfl) ?_ (fun hHeld => ?_)
      · (try dsimp only)
        first | (exact ⟨E7.drew.cell 5 rfl 1 rfl, E7.drew.cell 5 rfl 2 rfl, E7.drew.cell 5 rfl 3 rfl, E7.drew.cell 5 rfl 5 rfl, E7.drew.cell 5 rfl 6 rfl, E7.drew.cell 3 rfl 0 rfl, E7.drew.cell 0 rfl 8 rfl⟩)
      refine take_on (i := 0) (by (simp only [List.getElem?_toArray, List.getElem?_cons_succ, List.getElem?_cons_zero]) <;> rfl) (by kernel_rfl) (by kernel_rfl) (by kernel_rfl) (by intro _ _ _ _ h; exact h) (by rfl) (by assumption) ?_
      apply Exists.intro
      refine ⟨?_, ?_⟩
      · intro W0 hSw
        try dsimp only at hSw
        go_simp
        try (with_reducible rfl)
      try simp only [Act.put, List.setIfInBounds_toArray, List.set_cons_zero, List.set_cons_succ]
      refine take_on (i := 1) (by (simp only [List.getElem?_toArray, List.getElem?_cons_succ, List.getElem?_cons_zero]) <;> rfl) (by kernel_rfl) (by kernel_rfl) (by kernel_rfl) (by intro _ _ _ _ h; exact h) (by rfl) (by assumption) ?_
      apply Exists.intro
      refine ⟨?_, ?_⟩
      · intro W0 hSw
        try dsimp only at hSw
        go_simp
        try (with_reducible rfl)
      try simp only [Act.put, List.setIfInBounds_toArray, List.set_cons_zero, List.set_cons_succ]
      refine take_on (i := 2) (by (simp only [List.getElem?_toArray, List.getElem?_cons_succ, List.getElem?_cons_zero]) <;> rfl) (by kernel_rfl) (by kernel_rfl) (by kernel_rfl) (by intro _ _ _ _ h; exact h) (by rfl) (by assumption) ?_
      apply Exists.intro
      refine ⟨?_, ?_⟩
      · intro W0 hSw
        try dsimp only at hSw
        go_simp
        try (with_reducible rfl)
      try simp only [Act.put, List.setIfInBounds_toArray, List.set_cons_zero, List.set_cons_succ]
      refine take_on (i := 3) (by (simp only [List.getElem?_toArray, List.getElem?_cons_succ, List.getElem?_cons_zero]) <;> rfl) (by kernel_rfl) (by kernel_rfl) (by kernel_rfl) (by intro _ _ _ _ h; exact h) (by rfl) (by assumption) ?_
      apply Exists.intro
      refine ⟨?_, ?_⟩
      · intro W0 hSw
        try dsimp only at hSw
        go_simp
        try (with_reducible rfl)
      try simp only [Act.put, List.setIfInBounds_toArray, List.set_cons_zero, List.set_cons_succ]
      refine take_on (i := 4) (by (simp only [List.getElem?_toArray, List.getElem?_cons_succ, List.getElem?_cons_zero]) <;> rfl) (by kernel_rfl) (by kernel_rfl) (by kernel_rfl) (by intro _ _ _ _ h; exact h) (by rfl) (by assumption) ?_
      apply Exists.intro
      refine ⟨?_, ?_⟩
      · intro W0 hSw
        try dsimp only at hSw
        go_simp
        try (with_reducible rfl)
      try simp only [Act.put, List.setIfInBounds_toArray, List.set_cons_zero, List.set_cons_succ]
      refine take_on (i := 5) (by (simp only [List.getElem?_toArray, List.getElem?_cons_succ, List.getElem?_cons_zero]) <;> rfl) (by kernel_rfl) (by kernel_rfl) (by kernel_rfl) (by intro _ _ _ _ h; exact h) (by rfl) (by assumption) ?_
      apply Exists.intro
      refine ⟨?_, ?_⟩
      · intro W0 hSw
        try dsimp only at hSw
        go_simp
        try (with_reducible rfl)
      try simp only [Act.put, List.setIfInBounds_toArray, List.set_cons_zero, List.set_cons_succ]
      refine take_on (i := 6) (by (simp only [List.getElem?_toArray, List.getElem?_cons_succ, List.getElem?_cons_zero]) <;> rfl) (by kernel_rfl) (by kernel_rfl) (by kernel_rfl) (by intro _ _ _ _ h; exact h) (by rfl) (by assumption) ?_
      apply Exists.intro
      refine ⟨?_, ?_⟩
      · intro W0 hSw
        try dsimp only at hSw
        go_simp
        try (with_reducible rfl)
      try simp only [Act.put, List.setIfInBounds_toArray, List.set_cons_zero, List.set_cons_succ]
      refine take_on (i := 7) (by (simp only [List.getElem?_toArray, List.getElem?_cons_succ, List.getElem?_cons_zero]) <;> rfl) (by kernel_rfl) (by kernel_rfl) (by kernel_rfl) (by intro _ _ _ _ h; exact h) (by rfl) (by assumption) ?_
      apply Exists.intro
      refine ⟨?_, ?_⟩
      · intro W0 hSw
        try dsimp only at hSw
        go_simp
        try (with_reducible rfl)
      try simp only [Act.put, List.setIfInBounds_toArray, List.set_cons_zero, List.set_cons_succ]
      refine take_on (i := 8) (by (simp only [List.getElem?_toArray, List.getElem?_cons_succ, List.getElem?_cons_zero]) <;> rfl) (by kernel_rfl) (by kernel_rfl) (by kernel_rfl) (by intro _ _ _ _ h; exact h) (by rfl) (by assumption) ?_
      apply Exists.intro
      refine ⟨?_, ?_⟩
      · intro W0 hSw
        try dsimp only at hSw
        go_simp
        try (with_reducible rfl)
      try simp only [Act.put, List.setIfInBounds_toArray, List.set_cons_zero, List.set_cons_succ]
      refine take_on (i := 9) (by (simp only [List.getElem?_toArray, List.getElem?_cons_succ, List.getElem?_cons_zero]) <;> rfl) (by kernel_rfl) (by kernel_rfl) (by kernel_rfl) (by intro _ _ _ _ h; exact h) (by rfl) (by assumption) ?_
      apply Exists.intro
      refine ⟨?_, ?_⟩
      · intro W0 hSw
        try dsimp only at hSw
        go_simp
        try (with_reducible rfl)
      try simp only [Act.put, List.setIfInBounds_toArray, List.set_cons_zero, List.set_cons_succ]
      refine take_on (i := 10) (by (simp only [List.getElem?_toArray, List.getElem?_cons_succ, List.getElem?_cons_zero]) <;> rfl) (by kernel_rfl) (by kernel_rfl) (by kernel_rfl) (by intro _ _ _ _ h; exact h) (by rfl) (by assumption) ?_
      apply Exists.intro
      refine ⟨?_, ?_⟩
      · intro W0 hSw
        try dsimp only at hSw
        go_simp
        try (with_reducible rfl)
      try simp only [Act.put, List.setIfInBounds_toArray, List.set_cons_zero, List.set_cons_succ]
      refine take_on (i := 11) (by (simp only [List.getElem?_toArray, List.getElem?_cons_succ, List.getElem?_cons_zero]) <;> rfl) (by kernel_rfl) (by kernel_rfl) (by kernel_rfl) (by intro _ _ _ _ h; exact h) (by rfl) (by assumption) ?_
      apply Exists.intro
      refine ⟨?_, ?_⟩
      · intro W0 hSw
        try dsimp only at hSw
        go_simp
        try (with_reducible rfl)
      try simp only [Act.put, List.setIfInBounds_toArray, List.set_cons_zero, List.set_cons_succ]
      refine take_on (i := 13) (by (simp only [List.getElem?_toArray, List.getElem?_cons_succ, List.getElem?_cons_zero]) <;> rfl) (by kernel_rfl) (by kernel_rfl) (by kernel_rfl) (by intro _ _ _ _ h; exact h) (by rfl) (by assumption) ?_
      apply Exists.intro
      refine ⟨?_, ?_⟩
      · intro W0 hSw
        try dsimp only at hSw
        go_simp
        try (with_reducible rfl)
      try simp only [Act.put, List.setIfInBounds_toArray, List.set_cons_zero, List.set_cons_succ]
      refine take_on (i := 14) (by (simp only [List.getElem?_toArray, List.getElem?_cons_succ, List.getElem?_cons_zero]) <;> rfl) (by kernel_rfl) (by kernel_rfl) (by kernel_rfl) (by intro _ _ _ _ h; exact h) (by rfl) (by assumption) ?_
      apply Exists.intro
      refine ⟨?_, ?_⟩
      · intro W0 hSw
        try dsimp only at hSw
        go_simp
        try (with_reducible rfl)
      try simp only [Act.put, List.setIfInBounds_toArray, List.set_cons_zero, List.set_cons_succ]
      refine take_on (i := 15) (by (simp only [List.getElem?_toArray, List.getElem?_cons_succ, List.getElem?_cons_zero]) <;> rfl) (by kernel_rfl) (by kernel_rfl) (by kernel_rfl) (by intro _ _ _ _ h; exact h) (by rfl) (by assumption) ?_
      apply Exists.intro
      refine ⟨?_, ?_⟩
      · intro W0 hSw
        try dsimp only at hSw
        go_simp
        try (with_reducible rfl)
      try simp only [Act.put, List.setIfInBounds_toArray, List.set_cons_zero, List.set_cons_succ]
      refine take_on (i := 16) (by (simp only [List.getElem?_toArray, List.getElem?_cons_succ, List.getElem?_cons_zero]) <;> rfl) (by kernel_rfl) (by kernel_rfl) (by kernel_rfl) (by intro _ _ _ _ h; exact h) (by rfl) (by assumption) ?_
      apply Exists.intro
      refine ⟨?_, ?_⟩
      · intro W0 hSw
        try dsimp only at hSw
        go_simp
        try (with_reducible rfl)
      try simp only [Act.put, List.setIfInBounds_toArray, List.set_cons_zero, List.set_cons_succ]
      refine wpAnyH_ready (rs := [12, 22]) (by kernel_rfl) (by simp) ?_
      refine (AllReadyH.cons (by (simp only [List.getElem?_toArray, List.getElem?_cons_succ, List.getElem?_cons_zero]) <;> rfl) (fun K hK => ?_) (AllReadyH.cons (by (simp only [List.getElem?_toArray, List.getElem?_cons_succ, List.getElem?_cons_zero]) <;> rfl) (fun K hK => ?_) AllReadyH.nil))
      · go_simp
        refine (YC _).mono ?_
        rintro e w' ⟨rfl, rfl⟩
        have hkeep := hHeld
        go_wp2_with fail
        refine hK.out _ _ ?_ (fun hHeld => ?_)
        · (try dsimp only)
          first | (exact hkeep) | (exact ⟨E7.drew.cell 5 rfl 1 rfl, E7.drew.cell 5 rfl 2 rfl, E7.drew.cell 5 rfl 3 rfl, E7.drew.cell 5 rfl 5 rfl, E7.drew.cell 5 rfl 6 rfl, E7.drew.cell 3 rfl 0 rfl, E7.drew.cell 0 rfl 8 rfl⟩)
        clear hK K
        try simp only [Act.put, List.setIfInBounds_toArray, List.set_cons_zero, List.set_cons_succ]
        refine wpAnyH_ready (rs := [17, 22]) (by kernel_rfl) (by simp) ?_
        refine (AllReadyH.cons (by (simp only [List.getElem?_toArray, List.getElem?_cons_succ, List.getElem?_cons_zero]) <;> rfl) (fun K hK => ?_) (AllReadyH.cons (by (simp only [List.getElem?_toArray, List.getElem?_cons_succ, List.getElem?_cons_zero]) <;> rfl) (fun K hK => ?_) AllReadyH.nil))
        · go_simp
          refine (CT _ EV.low).mono ?_
          rintro e w8 hT
          rcases hT with ⟨h1, _⟩ | ⟨_, hl, bl, hv', V', cv, rfl, SL, oV, F8⟩
          case inl => exact absurd rfl h1
          replace EV := EV.join0 F8
          simp at EV
          have hkeep := And.intro (EV.cell 7 rfl 1 rfl) (And.intro (EV.cell 7 rfl 2 rfl) (And.intro (EV.cell 7 rfl 3 rfl) (And.intro (EV.cell 7 rfl 5 rfl) (And.intro (EV.cell 7 rfl 6 rfl) (And.intro (EV.cell 5 rfl 0 rfl) (EV.cell 0 rfl 8 rfl))))))
          go_wp2_with fail
          refine hK.out _ _ ?_ (fun hHeld => ?_)
          · (try dsimp only)
            first | (exact hkeep) | (exact ⟨E7.drew.cell 5 rfl 1 rfl, E7.drew.cell 5 rfl 2 rfl, E7.drew.cell 5 rfl 3 rfl, E7.drew.cell 5 rfl 5 rfl, E7.drew.cell 5 rfl 6 rfl, E7.drew.cell 3 rfl 0 rfl, E7.drew.cell 0 rfl 8 rfl⟩)
          clear hK K
          try simp only [Act.put, List.setIfInBounds_toArray, List.set_cons_zero, List.set_cons_succ]
          refine take_on (i := 18) (by (simp only [List.getElem?_toArray, List.getElem?_cons_succ, List.getElem?_cons_zero]) <;> rfl) (by kernel_rfl) (by kernel_rfl) (by kernel_rfl) (by intro _ _ _ _ h; exact h) (by rfl) (by assumption) ?_
          apply Exists.intro
          refine ⟨?_, ?_⟩
          · intro W0 hSw
            try dsimp only at hSw
            go_simp
            try (with_reducible rfl)
          try simp only [Act.put, List.setIfInBounds_toArray, List.set_cons_zero, List.set_cons_succ]
          refine take_on (i := 19) (by (simp only [List.getElem?_toArray, List.getElem?_cons_succ, List.getElem?_cons_zero]) <;> rfl) (by kernel_rfl) (by kernel_rfl) (by kernel_rfl) (by intro _ _ _ _ h; exact h) (by rfl) (by assumption) ?_
          apply Exists.intro
          refine ⟨?_, ?_⟩
          · intro W0 hSw
            try dsimp only at hSw
            go_simp
            try (with_reducible rfl)
          try simp only [Act.put, List.setIfInBounds_toArray, List.set_cons_zero, List.set_cons_succ]
          refine take_on (i := 20) (by (simp only [List.getElem?_toArray, List.getElem?_cons_succ, List.getElem?_cons_zero]) <;> rfl) (by kernel_rfl) (by kernel_rfl) (by kernel_rfl) (by intro _ _ _ _ h; exact h) (by rfl) (by assumption) ?_
          apply Exists.intro
          refine ⟨?_, ?_⟩
          · intro W0 hSw
            try dsimp only at hSw
            go_simp
            try (with_reducible rfl)
          try simp only [Act.put, List.setIfInBounds_toArray, List.set_cons_zero, List.set_cons_succ]
          refine take_on (i := 21) (by (simp only [List.getElem?_toArray, List.getElem?_cons_succ, List.getElem?_cons_zero]) <;> rfl) (by kernel_rfl) (by kernel_rfl) (by kernel_rfl) (by intro _ _ _ _ h; exact h) (by rfl) (by assumption) ?_
          apply Exists.intro
          refine ⟨?_, ?_⟩
          · intro W0 hSw
            try dsimp only at hSw
            go_simp
            try (with_reducible rfl)
          try simp only [Act.put, List.setIfInBounds_toArray, List.set_cons_zero, List.set_cons_succ]
          refine wpAnyH_ready (rs := [22]) (by kernel_rfl) (by simp) ?_
          refine (AllReadyH.cons (by (simp only [List.getElem?_toArray, List.getElem?_cons_succ, List.getElem?_cons_zero]) <;> rfl) (fun K hK => ?_) AllReadyH.nil)
          go_simp
          refine abs_env (EV.box1 [.int .i64 0, .int .i64 0, .int .i64 0, .int .i64 0, .int .i64 0, .int .i64 0, .slice none 0 0] 39) (fun W8 EV => ?_)
          have hkeep := And.intro (EV.cell 8 rfl 1 rfl) (And.intro (EV.cell 8 rfl 2 rfl) (And.intro (EV.cell 8 rfl 3 rfl) (And.intro (EV.cell 8 rfl 5 rfl) (And.intro (EV.cell 8 rfl 6 rfl) (And.intro (EV.cell 6 rfl 0 rfl) (EV.cell 0 rfl 8 rfl))))))
          refine hK.out _ _ ?_ (fun hHeld => ?_)
          · (try dsimp only)
            first | (exact hkeep) | (exact ⟨E7.drew.cell 5 rfl 1 rfl, E7.drew.cell 5 rfl 2 rfl, E7.drew.cell 5 rfl 3 rfl, E7.drew.cell 5 rfl 5 rfl, E7.drew.cell 5 rfl 6 rfl, E7.drew.cell 3 rfl 0 rfl, E7.drew.cell 0 rfl 8 rfl⟩)
          clear hK K
          try simp only [Act.put, List.setIfInBounds_toArray, List.set_cons_zero, List.set_cons_succ]
          refine wpAnyH_ready (rs := [23]) (by kernel_rfl) (by simp) ?_
          refine (AllReadyH.cons (by (simp only [List.getElem?_toArray, List.getElem?_cons_succ, List.getElem?_cons_zero]) <;> rfl) (fun K hK => ?_) AllReadyH.nil)
          refine wp_store_env EV 1 rfl 39 _ _ rfl 0 [.int .i64 inc, .int .i64 gon, .int .i64 usd, .int .i64 new, .int .i64 txb, .int .i64 tax, .slice V' vec.length cv] rfl rfl (by simp) (by kernel_rfl) (by simp [Value.oneCell']) (fun W9 EV => ?_)
          simp at EV
          have hkeep := And.intro (EV.cell 8 rfl 1 rfl) (And.intro (EV.cell 8 rfl 2 rfl) (And.intro (EV.cell 8 rfl 3 rfl) (And.intro (EV.cell 8 rfl 5 rfl) (And.intro (EV.cell 8 rfl 6 rfl) (And.intro (EV.cell 6 rfl 0 rfl) (EV.cell 0 rfl 8 rfl))))))
          refine hK.out _ _ ?_ (fun hHeld => ?_)
          · (try dsimp only)
            first | (exact hkeep) | (exact ⟨E7.drew.cell 5 rfl 1 rfl, E7.drew.cell 5 rfl 2 rfl, E7.drew.cell 5 rfl 3 rfl, E7.drew.cell 5 rfl 5 rfl, E7.drew.cell 5 rfl 6 rfl, E7.drew.cell 3 rfl 0 rfl, E7.drew.cell 0 rfl 8 rfl⟩)
          clear hK K
          try simp only [Act.put, List.setIfInBounds_toArray, List.set_cons_zero, List.set_cons_succ]
          refine take_on (i := 24) (by (simp only [List.getElem?_toArray, List.getElem?_cons_succ, List.getElem?_cons_zero]) <;> rfl) (by kernel_rfl) (by kernel_rfl) (by kernel_rfl) (by intro _ _ _ _ h; exact h) (by rfl) (by assumption) ?_
          apply Exists.intro
          refine ⟨?_, ?_⟩
          · intro W0 hSw
            try dsimp only at hSw
            go_simp
            try (with_reducible rfl)
          try simp only [Act.put, List.setIfInBounds_toArray, List.set_cons_zero, List.set_cons_succ]
          refine take_on (i := 25) (by (simp only [List.getElem?_toArray, List.getElem?_cons_succ, List.getElem?_cons_zero]) <;> rfl) (by kernel_rfl) (by kernel_rfl) (by kernel_rfl) (by intro _ _ _ _ h; exact h) (by rfl) (by assumption) ?_
          apply Exists.intro
          refine ⟨?_, ?_⟩
          · intro W0 hSw
            try dsimp only at hSw
            go_simp
            try (with_reducible rfl)
          try simp only [Act.put, List.setIfInBounds_toArray, List.set_cons_zero, List.set_cons_succ]
          refine wpAnyH_done (by kernel_rfl) ?_ _
          go_wp2_with fail
          go_meet
          exact ⟨_, bl, V', cv, hl, hv', rfl, rfl, rfl, SL, oV, EV⟩
        · go_simp
          refine abs_env (EV.box1 [.int .i64 0, .int .i64 0, .int .i64 0, .int .i64 0, .int .i64 0, .int .i64 0, .slice none 0 0] 39) (fun W8 EV => ?_)
          have hkeep := And.intro (EV.cell 6 rfl 1 rfl) (And.intro (EV.cell 6 rfl 2 rfl) (And.intro (EV.cell 6 rfl 3 rfl) (And.intro (EV.cell 6 rfl 5 rfl) (And.intro (EV.cell 6 rfl 6 rfl) (And.intro (EV.cell 4 rfl 0 rfl) (EV.cell 0 rfl 8 rfl))))))
          refine hK.out _ _ ?_ (fun hHeld => ?_)
          · (try dsimp only)
            first | (exact hkeep) | (exact ⟨E7.drew.cell 5 rfl 1 rfl, E7.drew.cell 5 rfl 2 rfl, E7.drew.cell 5 rfl 3 rfl, E7.drew.cell 5 rfl 5 rfl, E7.drew.cell 5 rfl 6 rfl, E7.drew.cell 3 rfl 0 rfl, E7.drew.cell 0 rfl 8 rfl⟩)
          clear hK K
          try simp only [Act.put, List.setIfInBounds_toArray, List.set_cons_zero, List.set_cons_succ]
          refine wpAnyH_ready (rs := [17]) (by kernel_rfl) (by simp) ?_
          refine (AllReadyH.cons (by (simp only [List.getElem?_toArray, List.getElem?_cons_succ, List.getElem?_cons_zero]) <;> rfl) (fun K hK => ?_) AllReadyH.nil)
          go_simp
          refine (CT _ EV.low).mono ?_
          rintro e w8 hT
          rcases hT with ⟨h1, _⟩ | ⟨_, hl, bl, hv', V', cv, rfl, SL, oV, F8⟩
          case inl => exact absurd rfl h1
          replace EV := (EV.join0 F8).perm ((List.perm_middle (l₁ := [hl, hv'])).cons _)
          simp at EV
          have hkeep := And.intro (EV.cell 8 rfl 1 rfl) (And.intro (EV.cell 8 rfl 2 rfl) (And.intro (EV.cell 8 rfl 3 rfl) (And.intro (EV.cell 8 rfl 5 rfl) (And.intro (EV.cell 8 rfl 6 rfl) (And.intro (EV.cell 6 rfl 0 rfl) (EV.cell 0 rfl 8 rfl))))))
          go_wp2_with fail
          refine hK.out _ _ ?_ (fun hHeld => ?_)
          · (try dsimp only)
            first | (exact hkeep) | (exact ⟨E7.drew.cell 5 rfl 1 rfl, E7.drew.cell 5 rfl 2 rfl, E7.drew.cell 5 rfl 3 rfl, E7.drew.cell 5 rfl 5 rfl, E7.drew.cell 5 rfl 6 rfl, E7.drew.cell 3 rfl 0 rfl, E7.drew.cell 0 rfl 8 rfl⟩)
          clear hK K
          try simp only [Act.put, List.setIfInBounds_toArray, List.set_cons_zero, List.set_cons_succ]
          refine take_on (i := 18) (by (simp only [List.getElem?_toArray, List.getElem?_cons_succ, List.getElem?_cons_zero]) <;> rfl) (by kernel_rfl) (by kernel_rfl) (by kernel_rfl) (by intro _ _ _ _ h; exact h) (by rfl) (by assumption) ?_
          apply Exists.intro
          refine ⟨?_, ?_⟩
          · intro W0 hSw
            try dsimp only at hSw
            go_simp
            try (with_reducible rfl)
          try simp only [Act.put, List.setIfInBounds_toArray, List.set_cons_zero, List.set_cons_succ]
          refine take_on (i := 19) (by (simp only [List.getElem?_toArray, List.getElem?_cons_succ, List.getElem?_cons_zero]) <;> rfl) (by kernel_rfl) (by kernel_rfl) (by kernel_rfl) (by intro _ _ _ _ h; exact h) (by rfl) (by assumption) ?_
          apply Exists.intro
          refine ⟨?_, ?_⟩
          · intro W0 hSw
            try dsimp only at hSw
            go_simp
            try (with_reducible rfl)
          try simp only [Act.put, List.setIfInBounds_toArray, List.set_cons_zero, List.set_cons_succ]
          refine take_on (i := 20) (by (simp only [List.getElem?_toArray, List.getElem?_cons_succ, List.getElem?_cons_zero]) <;> rfl) (by kernel_rfl) (by kernel_rfl) (by kernel_rfl) (by intro _ _ _ _ h; exact h) (by rfl) (by assumption) ?_
          apply Exists.intro
          refine ⟨?_, ?_⟩
          · intro W0 hSw
            try dsimp only at hSw
            go_simp
            try (with_reducible rfl)
          try simp only [Act.put, List.setIfInBounds_toArray, List.set_cons_zero, List.set_cons_succ]
          refine take_on (i := 21) (by (simp only [List.getElem?_toArray, List.getElem?_cons_succ, List.getElem?_cons_zero]) <;> rfl) (by kernel_rfl) (by kernel_rfl) (by kernel_rfl) (by intro _ _ _ _ h; exact h) (by rfl) (by assumption) ?_
          apply Exists.intro
          refine ⟨?_, ?_⟩
          · intro W0 hSw
            try dsimp only at hSw
            go_simp
            try (with_reducible rfl)
          try simp only [Act.put, List.setIfInBounds_toArray, List.set_cons_zero, List.set_cons_succ]
          refine wpAnyH_ready (rs := [23]) (by kernel_rfl) (by simp) ?_
          refine (AllReadyH.cons (by (simp only [List.getElem?_toArray, List.getElem?_cons_succ, List.getElem?_cons_zero]) <;> rfl) (fun K hK => ?_) AllReadyH.nil)
          refine wp_store_env EV 1 rfl 39 _ _ rfl 0 [.int .i64 inc, .int .i64 gon, .int .i64 usd, .int .i64 new, .int .i64 txb, .int .i64 tax, .slice V' vec.length cv] rfl rfl (by simp) (by kernel_rfl) (by simp [Value.oneCell']) (fun W9 EV => ?_)
          simp at EV
          have hkeep := And.intro (EV.cell 8 rfl 1 rfl) (And.intro (EV.cell 8 rfl 2 rfl) (And.intro (EV.cell 8 rfl 3 rfl) (And.intro (EV.cell 8 rfl 5 rfl) (And.intro (EV.cell 8 rfl 6 rfl) (And.intro (EV.cell 6 rfl 0 rfl) (EV.cell 0 rfl 8 rfl))))))
          refine hK.out _ _ ?_ (fun hHeld => ?_)
          · (try dsimp only)
            first | (exact hkeep) | (exact ⟨E7.drew.cell 5 rfl 1 rfl, E7.drew.cell 5 rfl 2 rfl, E7.drew.cell 5 rfl 3 rfl, E7.drew.cell 5 rfl 5 rfl, E7.drew.cell 5 rfl 6 rfl, E7.drew.cell 3 rfl 0 rfl, E7.drew.cell 0 rfl 8 rfl⟩)
          clear hK K
          try simp only [Act.put, List.setIfInBounds_toArray, List.set_cons_zero, List.set_cons_succ]
          refine take_on (i := 24) (by (simp only [List.getElem?_toArray, List.getElem?_cons_succ, List.getElem?_cons_zero]) <;> rfl) (by kernel_rfl) (by kernel_rfl) (by kernel_rfl) (by intro _ _ _ _ h; exact h) (by rfl) (by assumption) ?_
          apply Exists.intro
          refine ⟨?_, ?_⟩
          · intro W0 hSw
            try dsimp only at hSw
            go_simp
            try (with_reducible rfl)
          try simp only [Act.put, List.setIfInBounds_toArray, List.set_cons_zero, List.set_cons_succ]
          refine take_on (i := 25) (by (simp only [List.getElem?_toArray, List.getElem?_cons_succ, List.getElem?_cons_zero]) <;> rfl) (by kernel_rfl) (by kernel_rfl) (by kernel_rfl) (by intro _ _ _ _ h; exact h) (by rfl) (by assumption) ?_
          apply Exists.intro
          refine ⟨?_, ?_⟩
          · intro W0 hSw
            try dsimp only at hSw
            go_simp
            try (with_reducible rfl)
          try simp only [Act.put, List.setIfInBounds_toArray, List.set_cons_zero, List.set_cons_succ]
          refine wpAnyH_done (by kernel_rfl) ?_ _
          go_wp2_with fail
          go_meet
          exact ⟨_, bl, V', cv, hl, hv', rfl, rfl, rfl, SL, oV, EV⟩
      · go_simp
        refine abs_env (EV.box1 [.int .i64 0, .int .i64 0, .int .i64 0, .int .i64 0, .int .i64 0, .int .i64 0, .slice none 0 0] 39) (fun W8 EV => ?_)
        have hkeep := And.intro (EV.cell 6 rfl 1 rfl) (And.intro (EV.cell 6 rfl 2 rfl) (And.intro (EV.cell 6 rfl 3 rfl) (And.intro (EV.cell 6 rfl 5 rfl) (And.intro (EV.cell 6 rfl 6 rfl) (And.intro (EV.cell 4 rfl 0 rfl) (EV.cell 0 rfl 8 rfl))))))
        refine hK.out _ _ ?_ (fun hHeld => ?_)
        · (try dsimp only)
          first | (exact hkeep) | (exact ⟨E7.drew.cell 5 rfl 1 rfl, E7.drew.cell 5 rfl 2 rfl, E7.drew.cell 5 rfl 3 rfl, E7.drew.cell 5 rfl 5 rfl, E7.drew.cell 5 rfl 6 rfl, E7.drew.cell 3 rfl 0 rfl, E7.drew.cell 0 rfl 8 rfl⟩)
        clear hK K
        try simp only [Act.put, List.setIfInBounds_toArray, List.set_cons_zero, List.set_cons_succ]
        refine wpAnyH_ready (rs := [12]) (by kernel_rfl) (by simp) ?_
        refine (AllReadyH.cons (by (simp only [List.getElem?_toArray, List.getElem?_cons_succ, List.getElem?_cons_zero]) <;> rfl) (fun K hK => ?_) AllReadyH.nil)
        go_simp
        refine (YC _).mono ?_
        rintro e w' ⟨rfl, rfl⟩
        have hkeep := hHeld
        go_wp2_with fail
        refine hK.out _ _ ?_ (fun hHeld => ?_)
        · (try dsimp only)
          first | (exact hkeep) | (exact ⟨E7.drew.cell 5 rfl 1 rfl, E7.drew.cell 5 rfl 2 rfl, E7.drew.cell 5 rfl 3 rfl, E7.drew.cell 5 rfl 5 rfl, E7.drew.cell 5 rfl 6 rfl, E7.drew.cell 3 rfl 0 rfl, E7.drew.cell 0 rfl 8 rfl⟩)
        clear hK K
        try simp only [Act.put, List.setIfInBounds_toArray, List.set_cons_zero, List.set_cons_succ]
        refine wpAnyH_ready (rs := [17]) (by kernel_rfl) (by simp) ?_
        refine (AllReadyH.cons (by (simp only [List.getElem?_toArray, List.getElem?_cons_succ, List.getElem?_cons_zero]) <;> rfl) (fun K hK => ?_) AllReadyH.nil)
        go_simp
        refine (CT _ EV.low).mono ?_
        rintro e w8 hT
        rcases hT with ⟨h1, _⟩ | ⟨_, hl, bl, hv', V', cv, rfl, SL, oV, F8⟩
        case inl => exact absurd rfl h1
        replace EV := (EV.join0 F8).perm ((List.perm_middle (l₁ := [hl, hv'])).cons _)
        simp at EV
        have hkeep := And.intro (EV.cell 8 rfl 1 rfl) (And.intro (EV.cell 8 rfl 2 rfl) (And.intro (EV.cell 8 rfl 3 rfl) (And.intro (EV.cell 8 rfl 5 rfl) (And.intro (EV.cell 8 rfl 6 rfl) (And.intro (EV.cell 6 rfl 0 rfl) (EV.cell 0 rfl 8 rfl))))))
        go_wp2_with fail
        refine hK.out _ _ ?_ (fun hHeld => ?_)
        · (try dsimp only)
          first | (exact hkeep) | (exact ⟨E7.drew.cell 5 rfl 1 rfl, E7.drew.cell 5 rfl 2 rfl, E7.drew.cell 5 rfl 3 rfl, E7.drew.cell 5 rfl 5 rfl, E7.drew.cell 5 rfl 6 rfl, E7.drew.cell 3 rfl 0 rfl, E7.drew.cell 0 rfl 8 rfl⟩)
        clear hK K
        try simp only [Act.put, List.setIfInBounds_toArray, List.set_cons_zero, List.set_cons_succ]
        refine take_on (i := 18) (by (simp only [List.getElem?_toArray, List.getElem?_cons_succ, List.getElem?_cons_zero]) <;> rfl) (by kernel_rfl) (by kernel_rfl) (by kernel_rfl) (by intro _ _ _ _ h; exact h) (by rfl) (by assumption) ?_
        apply Exists.intro
        refine ⟨?_, ?_⟩
        · intro W0 hSw
          try dsimp only at hSw
          go_simp
          try (with_reducible rfl)
        try simp only [Act.put, List.setIfInBounds_toArray, List.set_cons_zero, List.set_cons_succ]
        refine take_on (i := 19) (by (simp only [List.getElem?_toArray, List.getElem?_cons_succ, List.getElem?_cons_zero]) <;> rfl) (by kernel_rfl) (by kernel_rfl) (by kernel_rfl) (by intro _ _ _ _ h; exact h) (by rfl) (by assumption) ?_
        apply Exists.intro
        refine ⟨?_, ?_⟩
        · intro W0 hSw
          try dsimp only at hSw
          go_simp
          try (with_reducible rfl)
        try simp only [Act.put, List.setIfInBounds_toArray, List.set_cons_zero, List.set_cons_succ]
        refine take_on (i := 20) (by (simp only [List.getElem?_toArray, List.getElem?_cons_succ, List.getElem?_cons_zero]) <;> rfl) (by kernel_rfl) (by kernel_rfl) (by kernel_rfl) (by intro _ _ _ _ h; exact h) (by rfl) (by assumption) ?_
        apply Exists.intro
        refine ⟨?_, ?_⟩
        · intro W0 hSw
          try dsimp only at hSw
          go_simp
          try (with_reducible rfl)
        try simp only [Act.put, List.setIfInBounds_toArray, List.set_cons_zero, List.set_cons_succ]
        refine take_on (i := 21) (by (simp only [List.getElem?_toArray, List.getElem?_cons_succ, List.getElem?_cons_zero]) <;> rfl) (by kernel_rfl) (by kernel_rfl) (by kernel_rfl) (by intro _ _ _ _ h; exact h) (by rfl) (by assumption) ?_
        apply Exists.intro
        refine ⟨?_, ?_⟩
        · intro W0 hSw
          try dsimp only at hSw
          go_simp
          try (with_reducible rfl)
        try simp only [Act.put, List.setIfInBounds_toArray, List.set_cons_zero, List.set_cons_succ]
        refine wpAnyH_ready (rs := [23]) (by kernel_rfl) (by simp) ?_
        refine (AllReadyH.cons (by (simp only [List.getElem?_toArray, List.getElem?_cons_succ, List.getElem?_cons_zero]) <;> rfl) (fun K hK => ?_) AllReadyH.nil)
        refine wp_store_env EV 1 rfl 39 _ _ rfl 0 [.int .i64 inc, .int .i64 gon, .int .i64 usd, .int .i64 new, .int .i64 txb, .int .i64 tax, .slice V' vec.length cv] rfl rfl (by simp) (by kernel_rfl) (by simp [Value.oneCell']) (fun W9 EV => ?_)
        simp at EV
        have hkeep := And.intro (EV.cell 8 rfl 1 rfl) (And.intro (EV.cell 8 rfl 2 rfl) (And.intro (EV.cell 8 rfl 3 rfl) (And.intro (EV.cell 8 rfl 5 rfl) (And.intro (EV.cell 8 rfl 6 rfl) (And.intro (EV.cell 6 rfl 0 rfl) (EV.cell 0 rfl 8 rfl))))))
        refine hK.out _ _ ?_ (fun hHeld => ?_)
        · (try dsimp only)
          first | (exact hkeep) | (exact ⟨E7.drew.cell 5 rfl 1 rfl, E7.drew.cell 5 rfl 2 rfl, E7.drew.cell 5 rfl 3 rfl, E7.drew.cell 5 rfl 5 rfl, E7.drew.cell 5 rfl 6 rfl, E7.drew.cell 3 rfl 0 rfl, E7.drew.cell 0 rfl 8 rfl⟩)
        clear hK K
        try simp only [Act.put, List.setIfInBounds_toArray, List.set_cons_zero, List.set_cons_succ]
        refine take_on (i := 24) (by (simp only [List.getElem?_toArray, List.getElem?_cons_succ, List.getElem?_cons_zero]) <;> rfl) (by kernel_rfl) (by kernel_rfl) (by kernel_rfl) (by intro _ _ _ _ h; exact h) (by rfl) (by assumption) ?_
        apply Exists.intro
        refine ⟨?_, ?_⟩
        · intro W0 hSw
          try dsimp only at hSw
          go_simp
          try (with_reducible rfl)
        try simp only [Act.put, List.setIfInBounds_toArray, List.set_cons_zero, List.set_cons_succ]
        refine take_on (i := 25) (by (simp only [List.getElem?_toArray, List.getElem?_cons_succ, List.getElem?_cons_zero]) <;> rfl) (by kernel_rfl) (by kernel_rfl) (by kernel_rfl) (by intro _ _ _ _ h; exact h) (by rfl) (by assumption) ?_
        apply Exists.intro
        refine ⟨?_, ?_⟩
        · intro W0 hSw
          try dsimp only at hSw
          go_simp
          try (with_reducible rfl)
        try simp only [Act.put, List.setIfInBounds_toArray, List.set_cons_zero, List.set_cons_succ]
        refine wpAnyH_done (by kernel_rfl) ?_ _
        go_wp2_with fail
        go_meet
        exact ⟨_, bl, V', cv, hl, hv', rfl, rfl, rfl, SL, oV, EV⟩
    case rest =>
      have hcut2 := hcut
      clear hcut E7 EV CT YC
      obtain ⟨b16, bl, V, cv, hl, hv', rfl, rfl, rfl, SL, oV, E8⟩ := hcut2
      refine ‹∀ (a : Act) (w : World), Code.wp _ _ _ a w → _› _ _ ?_
      obtain ⟨lf, hlf⟩ : ∃ z, Hid (sumC left = z) := ⟨_, rfl⟩
      have LF := fun (W : World) (kW : hl.sub W) => vntLeft_calls bl left hl W kW SL
      rw [hlf.out] at LF
      go_upto_region 11 with fail
      have EV := E8.drew
      refine wp_region_held_drew (S := (fun U => U.cell? ⟨b13, 0, none⟩ = some (.pointer (some ⟨bp, 0, none⟩)) ∧ U.rangeAt b16 0 [.int .i64 inc, .int .i64 gon, .int .i64 usd, .int .i64 new, .int .i64 txb, .int .i64 tax, .slice V vec.length cv])) (by kernel_rfl) ?_ (fun hHeld => ?_)
      · (try dsimp only)
        first | (exact ⟨E8.drew.cell 6 rfl 0 rfl, E8.drew.rangeMid 1 rfl 0 [.int .i64 inc, .int .i64 gon, .int .i64 usd, .int .i64 new, .int .i64 txb, .int .i64 tax, .slice V vec.length cv] rfl⟩)
      refine take_on (i := 0) (by (simp only [List.getElem?_toArray, List.getElem?_cons_succ, List.getElem?_cons_zero]) <;> rfl) (by kernel_rfl) (by kernel_rfl) (by kernel_rfl) (by intro _ _ _ _ h; exact h) (by rfl) (by assumption) ?_
      apply Exists.intro
      refine ⟨?_, ?_⟩
      · intro W0 hSw
        try dsimp only at hSw
        go_simp
        try (with_reducible rfl)
      try simp only [Act.put, List.setIfInBounds_toArray, List.set_cons_zero, List.set_cons_succ]
      refine take_on (i := 1) (by (simp only [List.getElem?_toArray, List.getElem?_cons_succ, List.getElem?_cons_zero]) <;> rfl) (by kernel_rfl) (by kernel_rfl) (by kernel_rfl) (by intro _ _ _ _ h; exact h) (by rfl) (by assumption) ?_
      apply Exists.intro
      refine ⟨?_, ?_⟩
      · intro W0 hSw
        try dsimp only at hSw
        go_simp
        try (with_reducible rfl)
      try simp only [Act.put, List.setIfInBounds_toArray, List.set_cons_zero, List.set_cons_succ]
      refine take_on (i := 2) (by (simp only [List.getElem?_toArray, List.getElem?_cons_succ, List.getElem?_cons_zero]) <;> rfl) (by kernel_rfl) (by kernel_rfl) (by kernel_rfl) (by intro _ _ _ _ h; exact h) (by rfl) (by assumption) ⟨_, fun W0 hSw => exec_load_mid 39 _ rfl b16 0 rfl [.int .i64 inc, .int .i64 gon, .int .i64 usd, .int .i64 new, .int .i64 txb, .int .i64 tax, .slice V vec.length cv] _ W0 (hSw.2) Tryz.underlying39 rfl (by kernel_rfl), ?_⟩
      try simp only [Act.put, List.setIfInBounds_toArray, List.set_cons_zero, List.set_cons_succ]
      refine take_on (i := 3) (by (simp only [List.getElem?_toArray, List.getElem?_cons_succ, List.getElem?_cons_zero]) <;> rfl) (by kernel_rfl) (by kernel_rfl) (by kernel_rfl) (by intro _ _ _ _ h; exact h) (by rfl) (by assumption) ?_
      apply Exists.intro
      refine ⟨?_, ?_⟩
      · intro W0 hSw
        try dsimp only at hSw
        go_simp
        try (with_reducible rfl)
      try simp only [Act.put, List.setIfInBounds_toArray, List.set_cons_zero, List.set_cons_succ]
      refine wpAnyH_ready (rs := [4]) (by kernel_rfl) (by simp) ?_
      refine (AllReadyH.cons (by (simp only [List.getElem?_toArray, List.getElem?_cons_succ, List.getElem?_cons_zero]) <;> rfl) (fun K hK => ?_) AllReadyH.nil)
      go_simp
      refine (LF _ (EV.at_mem (by simp))).mono ?_
      rintro e w9 ⟨rfl, B9⟩
      replace EV := EV.below B9
      have hkeep := And.intro (EV.cell 6 rfl 0 rfl) (EV.rangeMid 1 rfl 0 [.int .i64 inc, .int .i64 gon, .int .i64 usd, .int .i64 new, .int .i64 txb, .int .i64 tax, .slice V vec.length cv] rfl)
      go_wp2_with fail
      refine hK.out _ _ ?_ (fun hHeld => ?_)
      · (try dsimp only)
        first | (exact hkeep) | (exact ⟨E8.drew.cell 6 rfl 0 rfl, E8.drew.rangeMid 1 rfl 0 [.int .i64 inc, .int .i64 gon, .int .i64 usd, .int .i64 new, .int .i64 txb, .int .i64 tax, .slice V vec.length cv] rfl⟩)
      clear hK K
      try simp only [Act.put, List.setIfInBounds_toArray, List.set_cons_zero, List.set_cons_succ]
      refine take_on (i := 5) (by (simp only [List.getElem?_toArray, List.getElem?_cons_succ, List.getElem?_cons_zero]) <;> rfl) (by kernel_rfl) (by kernel_rfl) (by kernel_rfl) (by intro _ _ _ _ h; exact h) (by rfl) (by assumption) ?_
      apply Exists.intro
      refine ⟨?_, ?_⟩
      · intro W0 hSw
        try dsimp only at hSw
        go_simp
        try (with_reducible rfl)
      try simp only [Act.put, List.setIfInBounds_toArray, List.set_cons_zero, List.set_cons_succ]
      refine take_on (i := 6) (by (simp only [List.getElem?_toArray, List.getElem?_cons_succ, List.getElem?_cons_zero]) <;> rfl) (by kernel_rfl) (by kernel_rfl) (by kernel_rfl) (by intro _ _ _ _ h; exact h) (by rfl) (by assumption) ?_
      apply Exists.intro
      refine ⟨?_, ?_⟩
      · intro W0 hSw
        try dsimp only at hSw
        go_simp
        try (with_reducible rfl)
      try simp only [Act.put, List.setIfInBounds_toArray, List.set_cons_zero, List.set_cons_succ]
      refine wpAnyH_ready (rs := [7]) (by kernel_rfl) (by simp) ?_
      refine (AllReadyH.cons (by (simp only [List.getElem?_toArray, List.getElem?_cons_succ, List.getElem?_cons_zero]) <;> rfl) (fun K hK => ?_) AllReadyH.nil)
      refine wp_store_env EV 0 rfl 39 _ _ rfl 25 [.int .i64 inc, .int .i64 gon, .int .i64 usd, .int .i64 new, .int .i64 txb, .int .i64 tax, .slice V vec.length cv] rfl rfl (by simp) (by kernel_rfl) (by simp [Value.oneCell']) (fun W9 EV => ?_)
      simp at EV
      have hkeep := And.intro (EV.cell 6 rfl 0 rfl) (EV.rangeMid 1 rfl 0 [.int .i64 inc, .int .i64 gon, .int .i64 usd, .int .i64 new, .int .i64 txb, .int .i64 tax, .slice V vec.length cv] rfl)
      have c21 := EV.cell 0 rfl 21 rfl
      have cf := fun n => EV.free 0 rfl n
      refine hK.out _ _ ?_ (fun hHeld => ?_)
      · (try dsimp only)
        first | (exact hkeep) | (exact ⟨E8.drew.cell 6 rfl 0 rfl, E8.drew.rangeMid 1 rfl 0 [.int .i64 inc, .int .i64 gon, .int .i64 usd, .int .i64 new, .int .i64 txb, .int .i64 tax, .slice V vec.length cv] rfl⟩)
      clear hK K
      try simp only [Act.put, List.setIfInBounds_toArray, List.set_cons_zero, List.set_cons_succ]
      refine take_on (i := 8) (by (simp only [List.getElem?_toArray, List.getElem?_cons_succ, List.getElem?_cons_zero]) <;> rfl) (by kernel_rfl) (by kernel_rfl) (by kernel_rfl) (by intro _ _ _ _ h; exact h) (by rfl) (by assumption) ?_
      apply Exists.intro
      refine ⟨?_, ?_⟩
      · intro W0 hSw
        try dsimp only at hSw
        go_simp
        try (with_reducible rfl)
      try simp only [Act.put, List.setIfInBounds_toArray, List.set_cons_zero, List.set_cons_succ]
      refine take_on (i := 9) (by (simp only [List.getElem?_toArray, List.getElem?_cons_succ, List.getElem?_cons_zero]) <;> rfl) (by kernel_rfl) (by kernel_rfl) (by kernel_rfl) (by intro _ _ _ _ h; exact h) (by rfl) (by assumption) ?_
      apply Exists.intro
      refine ⟨?_, ?_⟩
      · intro W0 hSw
        try dsimp only at hSw
        go_simp
        try (with_reducible rfl)
      try simp only [Act.put, List.setIfInBounds_toArray, List.set_cons_zero, List.set_cons_succ]
      refine take_on (i := 10) (by (simp only [List.getElem?_toArray, List.getElem?_cons_succ, List.getElem?_cons_zero]) <;> rfl) (by kernel_rfl) (by kernel_rfl) (by kernel_rfl) (by intro _ _ _ _ h; exact h) (by rfl) (by assumption) ?_
      apply Exists.intro
      refine ⟨?_, ?_⟩
      · intro W0 hSw
        try dsimp only at hSw
        go_simp
        try (with_reducible rfl)
      try simp only [Act.put, List.setIfInBounds_toArray, List.set_cons_zero, List.set_cons_succ]
      refine wpAnyH_ready (rs := [11]) (by kernel_rfl) (by simp) ?_
      refine (AllReadyH.cons (by (simp only [List.getElem?_toArray, List.getElem?_cons_succ, List.getElem?_cons_zero]) <;> rfl) (fun K hK => ?_) AllReadyH.nil)
      go_simp
      refine abs_env (EV.cellset 0 rfl 21 (.int .i64 lf)) (fun W10 EV => ?_)
      simp only [List.set_cons_zero, List.set_cons_succ] at EV
      have hkeep := And.intro (EV.cell 6 rfl 0 rfl) (EV.rangeMid 1 rfl 0 [.int .i64 inc, .int .i64 gon, .int .i64 usd, .int .i64 new, .int .i64 txb, .int .i64 tax, .slice V vec.length cv] rfl)
      refine hK.out _ _ ?_ (fun hHeld => ?_)
      · (try dsimp only)
        first | (exact hkeep) | (exact ⟨E8.drew.cell 6 rfl 0 rfl, E8.drew.rangeMid 1 rfl 0 [.int .i64 inc, .int .i64 gon, .int .i64 usd, .int .i64 new, .int .i64 txb, .int .i64 tax, .slice V vec.length cv] rfl⟩)
      clear hK K
      try simp only [Act.put, List.setIfInBounds_toArray, List.set_cons_zero, List.set_cons_succ]
      refine wpAnyH_done (by kernel_rfl) ?_ _
      clear E8 hHeld hkeep LF c21 cf
      have eg1 : ∀ args w, (callFunc 57 args).run Tryz.prog w = .ok (.enter 57 args) w := enters_of Tryz.func57 (by kernel_rfl) rfl
      have eg2 : ∀ args w, (callFunc 58 args).run Tryz.prog w = .ok (.enter 58 args) w := enters_of Tryz.func58 (by kernel_rfl) rfl
      have eg3 : ∀ args w, (callFunc 60 args).run Tryz.prog w = .ok (.enter 60 args) w := enters_of Tryz.func60 (by kernel_rfl) rfl
      obtain ⟨tm, htm⟩ : ∃ z, Hid (meaN r rats = z) := ⟨_, rfl⟩
      obtain ⟨ls, hls⟩ : ∃ z, Hid (shareV lf nx = z) := ⟨_, rfl⟩
      obtain ⟨al, hal⟩ : ∃ z, Hid (-shareV ls x.judge = z) := ⟨_, rfl⟩
      obtain ⟨be, hbe⟩ : ∃ z, Hid (baE r rats lf nx x.judge = z) := ⟨_, rfl⟩
      obtain ⟨ws, hws⟩ : ∃ z, Hid (fwd o.xs r = z) := ⟨_, rfl⟩
      obtain ⟨now, hnow⟩ : ∃ z, Hid (nowOf t x.j x.per o.xs r = z) := ⟨_, rfl⟩
      obtain ⟨mo, hmo⟩ : ∃ z, Hid (remMo (fwd o.xs r) (wasOf t x.j x.per o.xs o.rs r) (nowOf t x.j x.per o.xs r) = z) := ⟨_, rfl⟩
      obtain ⟨ra, hra⟩ : ∃ z, Hid (remRa (fwd o.xs r) (wasOf t x.j x.per o.xs o.rs r) (nowOf t x.j x.per o.xs r) = z) := ⟨_, rfl⟩
      obtain ⟨ce, hce⟩ : ∃ z, Hid (chE t x.j x.per o.xs o.rs r = z) := ⟨_, rfl⟩
      obtain ⟨lr, hlr⟩ : ∃ z, Hid (coLr o.nx o.lf nx = z) := ⟨_, rfl⟩
      obtain ⟨lm, hlm⟩ : ∃ z, Hid (coLm o.nx o.lf o.ls nx ls = z) := ⟨_, rfl⟩
      obtain ⟨am, ham⟩ : ∃ z, Hid (o.al - al = z) := ⟨_, rfl⟩
      obtain ⟨df, hdf⟩ : ∃ z, Hid (coDf o.nx o.lf o.ls o.al nx ls al mo ra = z) := ⟨_, rfl⟩
      obtain ⟨tot, htot⟩ : ∃ z, Hid (coTot x.up o.nx o.lf o.ls o.al nx ls al tax mo ra = z) := ⟨_, rfl⟩
      obtain ⟨cb', hcb⟩ : ∃ z, Hid ((coL x.up o.nx o.lf o.tm o.ls o.al nx tm ls al tax mo ra).all money = z) := ⟨_, rfl⟩
      have hw_ := was_of o t x v r
      have F_rt : Hid ((⟨t, x, o, v, r⟩ : SArg).rt = rt) := by unfold Hid; rw [← hrt.out, ← hyr.out]; rfl
      have F_nx : Hid ((⟨t, x, o, v, r⟩ : SArg).nx = nx) := by unfold Hid; rw [← hnx.out]; rfl
      have F_rats : Hid ((⟨t, x, o, v, r⟩ : SArg).rats = rats) := by unfold Hid; rw [← hrat.out]; rfl
      have F_rows : Hid ((⟨t, x, o, v, r⟩ : SArg).rows = ws) := by unfold Hid; rw [← hws.out]; rfl
      have F_mov : (⟨t, x, o, v, r⟩ : SArg).mov = mov := by rw [← hmov.out]; rfl
      have F_inc : Hid ((⟨t, x, o, v, r⟩ : SArg).inc = inc) := by unfold Hid; rw [← hinc.out, ← F_mov]; rfl
      have F_vec : Hid ((⟨t, x, o, v, r⟩ : SArg).vec = vec) := by unfold Hid; rw [← hvec.out, ← F_inc.out, ← hyr.out]; rfl
      have F_left : Hid ((⟨t, x, o, v, r⟩ : SArg).left = left) := by unfold Hid; rw [← hleft.out, ← F_inc.out, ← hyr.out]; rfl
      have F_lf : Hid ((⟨t, x, o, v, r⟩ : SArg).lf = lf) := by unfold Hid; rw [← hlf.out, ← F_left.out]; rfl
      have F_gon : Hid (vGone ((⟨t, x, o, v, r⟩ : SArg).v) ((⟨t, x, o, v, r⟩ : SArg).yr) = gon) := by unfold Hid; rw [← hgon.out, ← hyr.out]; rfl
      have F_usd : Hid ((⟨t, x, o, v, r⟩ : SArg).vec.sum = usd) := by unfold Hid; rw [← husd.out, F_vec.out]
      have F_new : Hid (curNew (⟨t, x, o, v, r⟩ : SArg).inc = new) := by unfold Hid; rw [← hnew.out, F_inc.out]
      have F_txb : Hid ((⟨t, x, o, v, r⟩ : SArg).txb = txb) := by unfold Hid; rw [← htxb.out, ← F_inc.out, ← hyr.out]; rfl
      have F_tax : Hid ((⟨t, x, o, v, r⟩ : SArg).tax = tax) := by unfold Hid; rw [← htax.out, ← F_txb.out, ← F_rt.out]; rfl
      have F_tm : Hid ((⟨t, x, o, v, r⟩ : SArg).tm = tm) := by unfold Hid; rw [← htm.out, ← F_rats.out]; rfl
      have F_ls : Hid ((⟨t, x, o, v, r⟩ : SArg).ls = ls) := by unfold Hid; rw [← hls.out, ← F_lf.out, ← F_nx.out]; rfl
      have F_al : Hid ((⟨t, x, o, v, r⟩ : SArg).al = al) := by unfold Hid; rw [← hal.out, ← F_ls.out]; rfl
      have F_now : Hid ((⟨t, x, o, v, r⟩ : SArg).now = now) := by unfold Hid; rw [← hnow.out]; rfl
      have F_mo : Hid ((⟨t, x, o, v, r⟩ : SArg).mo = mo) := by unfold Hid; rw [← hmo.out, ← hw_]; rfl
      have F_ra : Hid ((⟨t, x, o, v, r⟩ : SArg).ra = ra) := by unfold Hid; rw [← hra.out, ← hw_]; rfl
      have F_lr : Hid ((⟨t, x, o, v, r⟩ : SArg).lr = lr) := by unfold Hid; rw [← hlr.out, ← F_nx.out]; rfl
      have F_lm : Hid ((⟨t, x, o, v, r⟩ : SArg).lm = lm) := by unfold Hid; rw [← hlm.out, ← F_nx.out, ← F_ls.out]; rfl
      have F_am : Hid ((⟨t, x, o, v, r⟩ : SArg).am = am) := by unfold Hid; rw [← ham.out, ← F_al.out]; rfl
      have F_df : Hid ((⟨t, x, o, v, r⟩ : SArg).df = df) := by unfold Hid; rw [← hdf.out, ← F_nx.out, ← F_ls.out, ← F_al.out, ← F_mo.out, ← F_ra.out]; rfl
      have F_tot : Hid ((⟨t, x, o, v, r⟩ : SArg).tot = tot) := by unfold Hid; rw [← htot.out, ← F_nx.out, ← F_ls.out, ← F_al.out, ← F_mo.out, ← F_ra.out, ← F_tax.out]; rfl
      have F_be : Hid ((⟨t, x, o, v, r⟩ : SArg).balE = be) := by unfold Hid; rw [← hbe.out, ← F_rats.out, ← F_lf.out, ← F_nx.out]; rfl
      have F_ce : Hid ((⟨t, x, o, v, r⟩ : SArg).chgE = ce) := by unfold Hid; rw [← hce.out]; unfold chE; rw [← hw_]; rfl
      have F_co : Hid ((⟨t, x, o, v, r⟩ : SArg).costE = if cb' = true then 0 else 6) := by unfold Hid; rw [← hcb.out, ← F_nx.out, ← F_tm.out, ← F_ls.out, ← F_al.out, ← F_tax.out, ← F_mo.out, ← F_ra.out]; rfl
      have HK4 : Hid ((⟨t, x, o, v, r⟩ : SArg).makE = if be ≠ 0 then be else if ce ≠ 0 then ce else if cb' = true then 0 else 6) := by unfold Hid; rw [HK3.out, F_be.out, F_ce.out, F_co.out]
      clear HK3 F_be F_ce F_co hw_ F_mov
      have HPC : Hid (∀ W hl2 h2, Env w W [h2, hl2] → Vnt hl2 bl left → (∃ C cw N cn, Sl kTri h2 D cd o.xs ∧ Sl kInt h2 G cg o.rs ∧ Sl kTri h2 R cr r ∧ Sl kInt h2 Q cq rats ∧ Sl kInt h2 V cv vec ∧ Sl kWay h2 C cw ws ∧ Sl kInt h2 N cn now ∧ True) → True) := fun _ _ _ _ _ _ => trivial
      have HFIN : Hid (∀ (W : World) (h2 hl2 : Hp) (C N : Option Addr) (cw cn : Nat), (⟨t, x, o, v, r⟩ : SArg).makE = 0 → Env w W [h2, hl2] → Vnt hl2 bl left → Sl kTri h2 D cd o.xs → Sl kInt h2 G cg o.rs → Sl kTri h2 R cr r → Sl kInt h2 Q cq rats → Sl kInt h2 V cv vec → Sl kWay h2 C cw ws → Sl kInt h2 N cn now →
          M (.returned (.tuple #[.agg (List.toArray [.string x.j, .int .i64 x.per, .int .i64 x.book, .int .i64 x.perm, .int .i64 x.judge, .int .i64 x.cap, .int .i64 x.life, .int .i64 x.up, .int .i64 rt, .int .i64 o.per, .slice D o.xs.length cd, .slice G o.rs.length cg, .int .i64 o.nx, .int .i64 o.lf, .int .i64 o.tm, .int .i64 o.ls, .int .i64 o.al, .int .i64 x.per, .slice R r.length cr, .slice Q rats.length cq, .int .i64 nx, .int .i64 lf, .int .i64 tm, .int .i64 ls, .int .i64 al, .int .i64 inc, .int .i64 gon, .int .i64 usd, .int .i64 new, .int .i64 txb, .int .i64 tax, .slice V vec.length cv, .slice C ws.length cw, .slice N now.length cn, .int .i64 mo, .int .i64 ra, .int .i64 lm, .int .i64 lr, .int .i64 am, .int .i64 df, .int .i64 tot]), .pointer (some ⟨bl, 0, none⟩), .int .i64 0])) W) := fun W h2 hl2 C N cw cn h0 EW SW s1 s2 s3 s4 s5 s6 s7 => by
        rw [HM.out]
        refine .inr ⟨h0, h2, hl2, bl, _, rfl, ⟨D, cd, G, cg, R, cr, Q, cq, V, cv, C, cw, N, cn, ?_, s1, s2, s3, by rw [F_rats.out]; exact s4, by rw [F_vec.out]; exact s5, by rw [F_rows.out]; exact s6, by rw [F_now.out]; exact s7⟩, by rw [F_left.out]; exact SW, EW⟩
        rw [F_rt.out, F_nx.out, F_rats.out, F_lf.out, F_tm.out, F_ls.out, F_al.out, F_new.out, F_usd.out, F_inc.out, F_gon.out, F_txb.out, F_tax.out, F_vec.out, F_rows.out, F_now.out, F_mo.out, F_ra.out, F_lm.out, F_lr.out, F_am.out, F_df.out, F_tot.out]
      clear HPC F_rt F_nx F_rats F_lf F_tm F_ls F_al F_inc F_gon F_usd F_new F_txb F_tax F_vec F_rows F_now F_mo F_ra F_lm F_lr F_am F_df F_tot F_left FT HM MN
      have Bls : 0 ≤ ls ∧ ls ≤ 100000000000 := by rw [← hls.out]; exact shareV_bd
      have Bal : -100000000000 ≤ al ∧ al ≤ 0 := by rw [← hal.out]; have := shareV_bd (n := ls) (r := x.judge); omega
      have Btm : -100000000000 ≤ tm ∧ tm ≤ 100000000000 := by rw [← htm.out]; exact meaN_bd _ _
      have Bmo : -100000000000 ≤ mo ∧ mo ≤ 100000000000 := by rw [← hmo.out]; have := (remMo_money (rows := fwd o.xs r) (os := wasOf t x.j x.per o.xs o.rs r) (ns := nowOf t x.j x.per o.xs r)).1; simpa [money] using this
      have Bra : -100000000000 ≤ ra ∧ ra ≤ 100000000000 := by rw [← hra.out]; have := (remMo_money (rows := fwd o.xs r) (os := wasOf t x.j x.per o.xs o.rs r) (ns := nowOf t x.j x.per o.xs r)).2; simpa [money] using this
      have Btax : -4000000000001 ≤ tax ∧ tax ≤ 4000000000001 := by rw [← htax.out]; exact ofVal_bd _ _
      have Bols := g.o.ls
      have Boal := g.o.al
      have Botm : -100000000000 ≤ o.tm ∧ o.tm ≤ 100000000000 := by have := g.o.tm; simpa [money] using this
      have c13 := EV.cell 6 rfl 0 rfl
      have EF := EV.box1 [.func (.func 57) #[.pointer (some ⟨bp, 0, none⟩)] #[], .func (.func 58) #[] #[.pointer (some ⟨b13, 0, none⟩), .pointer (some ⟨b5, 0, none⟩)], .func (.func 60) #[.pointer (some ⟨bp, 0, none⟩)] #[]] 124
      go_wp2
      go_loopw [107] (fun i wr => (i = .int .i64 0 ∧ Env w wr (Hp.box bp [.string x.j, .int .i64 x.per, .int .i64 x.book, .int .i64 x.perm, .int .i64 x.judge, .int .i64 x.cap, .int .i64 x.life, .int .i64 x.up, .int .i64 rt, .int .i64 o.per, .slice D o.xs.length cd, .slice G o.rs.length cg, .int .i64 o.nx, .int .i64 o.lf, .int .i64 o.tm, .int .i64 o.ls, .int .i64 o.al, .int .i64 x.per, .slice R r.length cr, .slice Q rats.length cq, .int .i64 nx, .int .i64 lf, .int .i64 0, .int .i64 0, .int .i64 0, .int .i64 inc, .int .i64 gon, .int .i64 usd, .int .i64 new, .int .i64 txb, .int .i64 tax, .slice V vec.length cv, .slice none 0 0, .slice none 0 0, .int .i64 0, .int .i64 0, .int .i64 0, .int .i64 0, .int .i64 0, .int .i64 0, .int .i64 0] 44 :: Hp.box W10.heap.size [.func (.func 57) #[.pointer (some ⟨bp, 0, none⟩)] #[], .func (.func 58) #[] #[.pointer (some ⟨b13, 0, none⟩), .pointer (some ⟨b5, 0, none⟩)], .func (.func 60) #[.pointer (some ⟨bp, 0, none⟩)] #[]] 124 :: Hp.box b16 [.int .i64 inc, .int .i64 gon, .int .i64 usd, .int .i64 new, .int .i64 txb, .int .i64 tax, .slice V vec.length cv] 39 :: hl :: hv' :: hq :: hR :: Hp.box b13 [.pointer (some ⟨bp, 0, none⟩)] 118 :: Hp.box b10 [.string ⟨#[]⟩, .int .i64 0, .int .i64 0, .int .i64 0, .int .i64 0, .int .i64 0, .int .i64 0, .int .i64 0, .int .i64 0, .int .i64 0, .slice none 0 0, .slice none 0 0, .int .i64 0, .int .i64 0, .int .i64 0, .int .i64 0, .int .i64 0, .int .i64 0, .slice none 0 0, .slice none 0 0, .int .i64 0, .int .i64 0, .int .i64 0, .int .i64 0, .int .i64 0, .int .i64 0, .int .i64 0, .int .i64 0, .int .i64 0, .int .i64 0, .int .i64 0, .slice none 0 0, .slice none 0 0, .slice none 0 0, .int .i64 0, .int .i64 0, .int .i64 0, .int .i64 0, .int .i64 0, .int .i64 0, .int .i64 0] 44 :: Hp.box b6 [.string x.j, .int .i64 x.per, .int .i64 x.book, .int .i64 x.perm, .int .i64 x.judge, .int .i64 x.cap, .int .i64 x.life, .int .i64 x.up] 31 :: Hp.box b5 [.pointer (some ⟨bt, 0, none⟩)] 22 :: hd :: hg :: [])) ∨ (i = .int .i64 1 ∧ Hid (be = 0) ∧ Env w wr (Hp.box bp [.string x.j, .int .i64 x.per, .int .i64 x.book, .int .i64 x.perm, .int .i64 x.judge, .int .i64 x.cap, .int .i64 x.life, .int .i64 x.up, .int .i64 rt, .int .i64 o.per, .slice D o.xs.length cd, .slice G o.rs.length cg, .int .i64 o.nx, .int .i64 o.lf, .int .i64 o.tm, .int .i64 o.ls, .int .i64 o.al, .int .i64 x.per, .slice R r.length cr, .slice Q rats.length cq, .int .i64 nx, .int .i64 lf, .int .i64 tm, .int .i64 ls, .int .i64 al, .int .i64 inc, .int .i64 gon, .int .i64 usd, .int .i64 new, .int .i64 txb, .int .i64 tax, .slice V vec.length cv, .slice none 0 0, .slice none 0 0, .int .i64 0, .int .i64 0, .int .i64 0, .int .i64 0, .int .i64 0, .int .i64 0, .int .i64 0] 44 :: Hp.box W10.heap.size [.func (.func 57) #[.pointer (some ⟨bp, 0, none⟩)] #[], .func (.func 58) #[] #[.pointer (some ⟨b13, 0, none⟩), .pointer (some ⟨b5, 0, none⟩)], .func (.func 60) #[.pointer (some ⟨bp, 0, none⟩)] #[]] 124 :: Hp.box b16 [.int .i64 inc, .int .i64 gon, .int .i64 usd, .int .i64 new, .int .i64 txb, .int .i64 tax, .slice V vec.length cv] 39 :: hl :: hv' :: hq :: hR :: Hp.box b13 [.pointer (some ⟨bp, 0, none⟩)] 118 :: Hp.box b10 [.string ⟨#[]⟩, .int .i64 0, .int .i64 0, .int .i64 0, .int .i64 0, .int .i64 0, .int .i64 0, .int .i64 0, .int .i64 0, .int .i64 0, .slice none 0 0, .slice none 0 0, .int .i64 0, .int .i64 0, .int .i64 0, .int .i64 0, .int .i64 0, .int .i64 0, .slice none 0 0, .slice none 0 0, .int .i64 0, .int .i64 0, .int .i64 0, .int .i64 0, .int .i64 0, .int .i64 0, .int .i64 0, .int .i64 0, .int .i64 0, .int .i64 0, .int .i64 0, .slice none 0 0, .slice none 0 0, .slice none 0 0, .int .i64 0, .int .i64 0, .int .i64 0, .int .i64 0, .int .i64 0, .int .i64 0, .int .i64 0] 44 :: Hp.box b6 [.string x.j, .int .i64 x.per, .int .i64 x.book, .int .i64 x.perm, .int .i64 x.judge, .int .i64 x.cap, .int .i64 x.life, .int .i64 x.up] 31 :: Hp.box b5 [.pointer (some ⟨bt, 0, none⟩)] 22 :: hd :: hg :: [])) ∨
          (i = .int .i64 2 ∧ Hid (be = 0 ∧ ce = 0) ∧ ∃ (C : Option Addr) (cw : Nat) (N : Option Addr) (cn : Nat) (hw hn : Hp), Ow kWay hw C cw ws ∧ Ow kInt hn N cn now ∧ Env w wr (Hp.box bp [.string x.j, .int .i64 x.per, .int .i64 x.book, .int .i64 x.perm, .int .i64 x.judge, .int .i64 x.cap, .int .i64 x.life, .int .i64 x.up, .int .i64 rt, .int .i64 o.per, .slice D o.xs.length cd, .slice G o.rs.length cg, .int .i64 o.nx, .int .i64 o.lf, .int .i64 o.tm, .int .i64 o.ls, .int .i64 o.al, .int .i64 x.per, .slice R r.length cr, .slice Q rats.length cq, .int .i64 nx, .int .i64 lf, .int .i64 tm, .int .i64 ls, .int .i64 al, .int .i64 inc, .int .i64 gon, .int .i64 usd, .int .i64 new, .int .i64 txb, .int .i64 tax, .slice V vec.length cv, .slice C ws.length cw, .slice N now.length cn, .int .i64 mo, .int .i64 ra, .int .i64 0, .int .i64 0, .int .i64 0, .int .i64 0, .int .i64 0] 44 :: hn :: hw :: Hp.box W10.heap.size [.func (.func 57) #[.pointer (some ⟨bp, 0, none⟩)] #[], .func (.func 58) #[] #[.pointer (some ⟨b13, 0, none⟩), .pointer (some ⟨b5, 0, none⟩)], .func (.func 60) #[.pointer (some ⟨bp, 0, none⟩)] #[]] 124 :: Hp.box b16 [.int .i64 inc, .int .i64 gon, .int .i64 usd, .int .i64 new, .int .i64 txb, .int .i64 tax, .slice V vec.length cv] 39 :: hl :: hv' :: hq :: hR :: Hp.box b13 [.pointer (some ⟨bp, 0, none⟩)] 118 :: Hp.box b10 [.string ⟨#[]⟩, .int .i64 0, .int .i64 0, .int .i64 0, .int .i64 0, .int .i64 0, .int .i64 0, .int .i64 0, .int .i64 0, .int .i64 0, .slice none 0 0, .slice none 0 0, .int .i64 0, .int .i64 0, .int .i64 0, .int .i64 0, .int .i64 0, .int .i64 0, .slice none 0 0, .slice none 0 0, .int .i64 0, .int .i64 0, .int .i64 0, .int .i64 0, .int .i64 0, .int .i64 0, .int .i64 0, .int .i64 0, .int .i64 0, .int .i64 0, .int .i64 0, .slice none 0 0, .slice none 0 0, .slice none 0 0, .int .i64 0, .int .i64 0, .int .i64 0, .int .i64 0, .int .i64 0, .int .i64 0, .int .i64 0] 44 :: Hp.box b6 [.string x.j, .int .i64 x.per, .int .i64 x.book, .int .i64 x.perm, .int .i64 x.judge, .int .i64 x.cap, .int .i64 x.life, .int .i64 x.up] 31 :: Hp.box b5 [.pointer (some ⟨bt, 0, none⟩)] 22 :: hd :: hg :: [])) ∨
          (i = .int .i64 3 ∧ Hid (be = 0 ∧ ce = 0 ∧ cb' = true) ∧ ∃ (C : Option Addr) (cw : Nat) (N : Option Addr) (cn : Nat) (hw hn : Hp), Ow kWay hw C cw ws ∧ Ow kInt hn N cn now ∧ Env w wr (Hp.box bp [.string x.j, .int .i64 x.per, .int .i64 x.book, .int .i64 x.perm, .int .i64 x.judge, .int .i64 x.cap, .int .i64 x.life, .int .i64 x.up, .int .i64 rt, .int .i64 o.per, .slice D o.xs.length cd, .slice G o.rs.length cg, .int .i64 o.nx, .int .i64 o.lf, .int .i64 o.tm, .int .i64 o.ls, .int .i64 o.al, .int .i64 x.per, .slice R r.length cr, .slice Q rats.length cq, .int .i64 nx, .int .i64 lf, .int .i64 tm, .int .i64 ls, .int .i64 al, .int .i64 inc, .int .i64 gon, .int .i64 usd, .int .i64 new, .int .i64 txb, .int .i64 tax, .slice V vec.length cv, .slice C ws.length cw, .slice N now.length cn, .int .i64 mo, .int .i64 ra, .int .i64 lm, .int .i64 lr, .int .i64 am, .int .i64 df, .int .i64 tot] 44 :: hn :: hw :: Hp.box W10.heap.size [.func (.func 57) #[.pointer (some ⟨bp, 0, none⟩)] #[], .func (.func 58) #[] #[.pointer (some ⟨b13, 0, none⟩), .pointer (some ⟨b5, 0, none⟩)], .func (.func 60) #[.pointer (some ⟨bp, 0, none⟩)] #[]] 124 :: Hp.box b16 [.int .i64 inc, .int .i64 gon, .int .i64 usd, .int .i64 new, .int .i64 txb, .int .i64 tax, .slice V vec.length cv] 39 :: hl :: hv' :: hq :: hR :: Hp.box b13 [.pointer (some ⟨bp, 0, none⟩)] 118 :: Hp.box b10 [.string ⟨#[]⟩, .int .i64 0, .int .i64 0, .int .i64 0, .int .i64 0, .int .i64 0, .int .i64 0, .int .i64 0, .int .i64 0, .int .i64 0, .slice none 0 0, .slice none 0 0, .int .i64 0, .int .i64 0, .int .i64 0, .int .i64 0, .int .i64 0, .int .i64 0, .slice none 0 0, .slice none 0 0, .int .i64 0, .int .i64 0, .int .i64 0, .int .i64 0, .int .i64 0, .int .i64 0, .int .i64 0, .int .i64 0, .int .i64 0, .int .i64 0, .int .i64 0, .slice none 0 0, .slice none 0 0, .slice none 0 0, .int .i64 0, .int .i64 0, .int .i64 0, .int .i64 0, .int .i64 0, .int .i64 0, .int .i64 0] 44 :: Hp.box b6 [.string x.j, .int .i64 x.per, .int .i64 x.book, .int .i64 x.perm, .int .i64 x.judge, .int .i64 x.cap, .int .i64 x.life, .int .i64 x.up] 31 :: Hp.box b5 [.pointer (some ⟨bt, 0, none⟩)] 22 :: hd :: hg :: []))) (fun i _ => 3 - (intOf i).toNat)
      case atStart => exact .inl ⟨rfl, EF⟩
      case round =>
        clear EF EV c13
        rcases hrel with ⟨rfl, E⟩ | ⟨rfl, hb0, E⟩ | ⟨rfl, hb0, C, cw, N, cn, hw, hn, ow, on, E⟩ | ⟨rfl, hb0, C, cw, N, cn, hw, hn, ow, on, E⟩
        · have f0 := E.cell 1 rfl 0 rfl
          go_wp2_with fail
          refine (balances_calls r rats lf nx x.judge R Q cr cq bp _ _ _ _ _ _ _ _ _ _ _ _ _ _ _ _ _ _ _ _ _ _ _ _ _ _ _ _ _ _ _ _ _ _ _ _ hR hq w wr _ E (by simp) oR.sl (by simp) oq.sl (by omega)).mono ?_
          rintro e w9 hB
          unfold BaAns at hB
          rw [hbe.out, htm.out, hls.out, hal.out] at hB
          rcases hB with ⟨h0, rfl, EL⟩ | ⟨h0, rfl, E9⟩
          · have HE : Hid ((⟨t, x, o, v, r⟩ : SArg).makE = be) := by unfold Hid; rw [HK4.out, if_pos h0]
            have H0 := Lib.hid h0
            have t1 : (be != 0) = true := by simpa using h0
            clear h0 HFIN f0
            go_wp2_with (refine wpList_store_env rfl EL 7 rfl 44 _ _ rfl 0 [.string ⟨#[]⟩, .int .i64 0, .int .i64 0, .int .i64 0, .int .i64 0, .int .i64 0, .int .i64 0, .int .i64 0, .int .i64 0, .int .i64 0, .slice none 0 0, .slice none 0 0, .int .i64 0, .int .i64 0, .int .i64 0, .int .i64 0, .int .i64 0, .int .i64 0, .slice none 0 0, .slice none 0 0, .int .i64 0, .int .i64 0, .int .i64 0, .int .i64 0, .int .i64 0, .int .i64 0, .int .i64 0, .int .i64 0, .int .i64 0, .int .i64 0, .int .i64 0, .slice none 0 0, .slice none 0 0, .slice none 0 0, .int .i64 0, .int .i64 0, .int .i64 0, .int .i64 0, .int .i64 0, .int .i64 0, .int .i64 0] rfl rfl (by simp) (by kernel_rfl) (by simp [Value.oneCell']) ?_; intro W9 E9)
            simp at E9
            exact HRET.out _ _ _ 7 _ _ E9 rfl rfl rfl rfl HE.out H0.out
          · have H0 := Lib.hid h0
            clear h0 f0
            go_wp2
            go_roundw
            case rel => exact .inr (.inl ⟨by go_num, H0, E9⟩)
            case measure => simp [intOf]
        · have f0 := E.cell 1 rfl 1 rfl
          have c13 := E.cell 7 rfl 0 rfl
          have c5 := E.cell 10 rfl 0 rfl
          go_wp2_with fail
          refine (makeSub_calls t x.j x.per o.xs o.rs r D G R cd cg cr bp bt _ _ _ _ _ _ _ _ _ _ _ _ _ _ _ _ _ _ _ _ _ _ _ _ _ _ _ _ _ _ _ _ _ _ _ _ ht hd hg hR w wr _ b13 b5 c13 c5 E hts pt (by simp) od.sl (by simp) og.sl (by simp) oR.sl h14.out (by omega) (by omega)).mono ?_
          rintro e w9 hB
          unfold ChAns at hB
          rw [hce.out, hmo.out, hra.out, hws.out, hnow.out] at hB
          rcases hB with ⟨h0, rfl, EL⟩ | ⟨h0, rfl, C, cw, hw, N, cn, hn, ow, on, E9⟩
          · have HE : Hid ((⟨t, x, o, v, r⟩ : SArg).makE = ce) := by unfold Hid; rw [HK4.out, hb0.out]; rw [if_neg (by decide), if_pos h0]
            have H0 := Lib.hid h0
            have t1 : (ce != 0) = true := by simpa using h0
            clear h0 HFIN f0 c13 c5
            go_wp2_with (refine wpList_store_env rfl EL 7 rfl 44 _ _ rfl 0 [.string ⟨#[]⟩, .int .i64 0, .int .i64 0, .int .i64 0, .int .i64 0, .int .i64 0, .int .i64 0, .int .i64 0, .int .i64 0, .int .i64 0, .slice none 0 0, .slice none 0 0, .int .i64 0, .int .i64 0, .int .i64 0, .int .i64 0, .int .i64 0, .int .i64 0, .slice none 0 0, .slice none 0 0, .int .i64 0, .int .i64 0, .int .i64 0, .int .i64 0, .int .i64 0, .int .i64 0, .int .i64 0, .int .i64 0, .int .i64 0, .int .i64 0, .int .i64 0, .slice none 0 0, .slice none 0 0, .slice none 0 0, .int .i64 0, .int .i64 0, .int .i64 0, .int .i64 0, .int .i64 0, .int .i64 0, .int .i64 0] rfl rfl (by simp) (by kernel_rfl) (by simp [Value.oneCell']) ?_; intro W9 E9)
            simp at E9
            exact HRET.out _ _ _ 7 _ _ E9 rfl rfl rfl rfl HE.out H0.out
          · have H0 : Hid (be = 0 ∧ ce = 0) := ⟨hb0.out, h0⟩
            clear h0 f0 c13 c5
            go_wp2
            go_roundw
            case rel => exact .inr (.inr (.inl ⟨by go_num, H0, C, cw, N, cn, hw, hn, ow, on, E9⟩))
            case measure => simp [intOf]
        · have f0 := E.cell 3 rfl 2 rfl
          have Bup := HUP.out
          go_wp2_with fail
          refine (costs_calls x.up o.nx o.lf o.tm o.ls o.al nx tm ls al tax mo ra bp _ _ _ _ _ _ _ _ _ _ _ _ _ _ _ _ _ _ _ _ _ _ _ _ _ _ _ _ _ _ _ _ _ _ _ _ w wr _ E Bols Bls Boal Bal Botm Btm Bmo Bra Bup Btax).mono ?_
          rintro e w9 hB
          unfold CoAns at hB
          rw [hcb.out, hlm.out, hlr.out, ham.out, hdf.out, htot.out] at hB
          rcases hB with ⟨h0, rfl, EL⟩ | ⟨h0, rfl, E9⟩
          · have HE : Hid ((⟨t, x, o, v, r⟩ : SArg).makE = 6) := by unfold Hid; rw [HK4.out, hb0.out.1, hb0.out.2, h0]; rfl
            clear h0 HFIN f0
            go_wp2_with (refine wpList_store_env rfl EL 9 rfl 44 _ _ rfl 0 [.string ⟨#[]⟩, .int .i64 0, .int .i64 0, .int .i64 0, .int .i64 0, .int .i64 0, .int .i64 0, .int .i64 0, .int .i64 0, .int .i64 0, .slice none 0 0, .slice none 0 0, .int .i64 0, .int .i64 0, .int .i64 0, .int .i64 0, .int .i64 0, .int .i64 0, .slice none 0 0, .slice none 0 0, .int .i64 0, .int .i64 0, .int .i64 0, .int .i64 0, .int .i64 0, .int .i64 0, .int .i64 0, .int .i64 0, .int .i64 0, .int .i64 0, .int .i64 0, .slice none 0 0, .slice none 0 0, .slice none 0 0, .int .i64 0, .int .i64 0, .int .i64 0, .int .i64 0, .int .i64 0, .int .i64 0, .int .i64 0] rfl rfl (by simp) (by kernel_rfl) (by simp [Value.oneCell']) ?_; intro W9 E9)
            simp at E9
            exact HRET.out _ _ _ 9 _ _ E9 rfl rfl rfl rfl HE.out (by decide)
          · have H0 : Hid (be = 0 ∧ ce = 0 ∧ cb' = true) := ⟨hb0.out.1, hb0.out.2, h0⟩
            clear h0 f0
            go_wp2
            go_roundw
            case rel => exact .inr (.inr (.inr ⟨by go_num, H0, C, cw, N, cn, hw, hn, ow, on, E9⟩))
            case measure => simp [intOf]
        · have HE : Hid ((⟨t, x, o, v, r⟩ : SArg).makE = 0) := by unfold Hid; rw [HK4.out, hb0.out.1, hb0.out.2.1, hb0.out.2.2]; rfl
          have c13 := E.cell 9 rfl 0 rfl
          clear HRET
          go_wp2_with (first
            | (refine wpList_load_mid rfl 44 _ rfl bp 0 rfl _ _ (E.rangeMid 0 rfl 0 [.string x.j, .int .i64 x.per, .int .i64 x.book, .int .i64 x.perm, .int .i64 x.judge, .int .i64 x.cap, .int .i64 x.life, .int .i64 x.up, .int .i64 rt, .int .i64 o.per, .slice D o.xs.length cd, .slice G o.rs.length cg, .int .i64 o.nx, .int .i64 o.lf, .int .i64 o.tm, .int .i64 o.ls, .int .i64 o.al, .int .i64 x.per, .slice R r.length cr, .slice Q rats.length cq, .int .i64 nx, .int .i64 lf, .int .i64 tm, .int .i64 ls, .int .i64 al, .int .i64 inc, .int .i64 gon, .int .i64 usd, .int .i64 new, .int .i64 txb, .int .i64 tax, .slice V vec.length cv, .slice C ws.length cw, .slice N now.length cn, .int .i64 mo, .int .i64 ra, .int .i64 lm, .int .i64 lr, .int .i64 am, .int .i64 df, .int .i64 tot] rfl) Tryz.underlying44 rfl (by kernel_rfl) ?_)
            | (refine wpList_store_env rfl E 10 rfl 44 _ _ rfl 0 [.string x.j, .int .i64 x.per, .int .i64 x.book, .int .i64 x.perm, .int .i64 x.judge, .int .i64 x.cap, .int .i64 x.life, .int .i64 x.up, .int .i64 rt, .int .i64 o.per, .slice D o.xs.length cd, .slice G o.rs.length cg, .int .i64 o.nx, .int .i64 o.lf, .int .i64 o.tm, .int .i64 o.ls, .int .i64 o.al, .int .i64 x.per, .slice R r.length cr, .slice Q rats.length cq, .int .i64 nx, .int .i64 lf, .int .i64 tm, .int .i64 ls, .int .i64 al, .int .i64 inc, .int .i64 gon, .int .i64 usd, .int .i64 new, .int .i64 txb, .int .i64 tax, .slice V vec.length cv, .slice C ws.length cw, .slice N now.length cn, .int .i64 mo, .int .i64 ra, .int .i64 lm, .int .i64 lr, .int .i64 am, .int .i64 df, .int .i64 tot] rfl rfl (by simp) (by kernel_rfl) (by simp [Value.oneCell']) ?_; intro W9 E9))
          simp at E9
          have EA := ((((((E9.drop 12).drop 11).drop 10).drop 9).drop 4).drop 3).drop 0
          simp at EA
          have EB := EA.perm (List.perm_middle (l₁ := [hn, hw]))
          simp at EB
          obtain ⟨k1, p1, q1, EB⟩ := env_fuse2 EB
          obtain ⟨k2, p2, q2, EB⟩ := env_fuse2 EB
          obtain ⟨k3, p3, q3, EB⟩ := env_fuse2 EB
          obtain ⟨k4, p4, q4, EB⟩ := env_fuse2 EB
          obtain ⟨k5, p5, q5, EB⟩ := env_fuse2 EB
          obtain ⟨k6, p6, q6, EB⟩ := env_fuse2 EB
          exact bodyPost_ret (results_env3 Tryz.results17 E9 10 rfl rfl Tryz.underlying44 rfl (by kernel_rfl) rfl rfl) rfl (HFIN.out _ k6 hl C N cw cn HE.out EB.swapTo SL
            (od.sl.mono (q5.trans p6)) (og.sl.mono q6) (oR.sl.mono (q4.trans (p5.trans p6))) (oq.sl.mono (q3.trans (p4.trans (p5.trans p6)))) (oV.sl.mono (q2.trans (p3.trans (p4.trans (p5.trans p6)))))
            (ow.sl.mono (q1.trans (p2.trans (p3.trans (p4.trans (p5.trans p6)))))) (on.sl.mono (p1.trans (p2.trans (p3.trans (p4.trans (p5.trans p6)))))))
end Go.Proofs.YtnfedcaehkcffaaGreat
end
