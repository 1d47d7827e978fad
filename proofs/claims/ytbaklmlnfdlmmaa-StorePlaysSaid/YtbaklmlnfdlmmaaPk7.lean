/- Walks and plain facts that the laws of this seat share, part 7: contracts of functions, each said at its theorem. -/
import Derived.Test.YtbaklmlnfdlmmaaPk6
set_option linter.all false
section
/- The walk of the document's Post, of a provision. -/
namespace Go.Sl
open Go Go.RowKit
section
variable {P : Program} {α : Type} {k : Kd α} {h : Hp} {A B : Option Addr} {cap : Nat} {xs : List α} {w : World}
/-- append(nil, s...) in a drawn region: a copy in new memory. -/
theorem step_clone {ops : Array Oper} {op : Oper} {a : Act} {K : Act → World → Prop} {Q : Exit → Act → World → Prop} {F : Prop} {sx xx : Operand} {t e : TypeId} {z : Value} {bytes : Nat}
    (ht : P.underlying t = some (.slice e)) (hinfo : Info P e z k.size bytes) (hzs : z.cells.size = k.size) (hgd : op.guard = none)
    (ho : op.op = .call { callee := .builtin .append, args := #[sx, xx], argTypes := #[t, t] }) (n c : Nat) (hsv : a.eval sx = .slice B 0 0) (hxv : a.eval xx = .slice A n c)
    (hn : xs.length = n) (f : k.Flat) (o : Sl k h A cap xs) (s : h.sub w) (hm : n ≤ 1000000000) (hby : bytes ≤ 1000)
    (H : ∀ A' cap' w' h', Ow k h' A' cap' xs → Upd Hp.none h' w w' → K (a.put op.dst (.slice A' n cap')) w') :
    if Region.wanted op (yielded ops a.tmps) = true then Oper.wp P op a w K Q else F := by
  unfold Info at hinfo
  obtain ⟨i, hi, hz0, hz1, hz2⟩ := info_parts hinfo
  refine step_append hgd sx xx t ho e i z ht hi hz0 hz1 hzs bytes hz2 0 n c rfl hn hsv hxv (Ow.zero k Hp.none B) (Hp.none_sub _) ((o.src s).flat f Hp.none) (Hp.none_sub _) (Hp.apart_none _) (by unfold maxLen; omega) ?_ ?_
  · have : (0 + n) * bytes ≤ 1000000000 * 1000 := Nat.mul_le_mul (by omega) hby
    omega
  · intro A' cap' w' h' h1 h2
    rw [Nat.zero_add]
    exact H A' cap' w' h' h1 h2.flat
end
end Go.Sl
namespace Go.Proofs.Ytbaklmlnfdlmmaa
open Go.RowKit Go.Sl
set_option maxHeartbeats 8000000
set_option maxRecDepth 100000
theorem refPeriod_calls (p : Int) (w : World) : Calls Try.prog 25 #[.int .i64 p] w fun e w' => e = .returned (.bool (decide (0 ≤ p ∧ p ≤ 399))) ∧ w = w' := by
  go_enter Try.func25, Try.ntmps25
  go_wp2
  all_goals
    go_ret
    exact ⟨by simp; omega, rfl⟩
/-- What the document's Post returns. -/
def RPostAns (b : Nat) (js : List SJ) (ent : ByteArray) (p kind of : Int) (xs : List SItem) (h : Hp) (w : World) (e : Ending) (w' : World) : Prop :=
  ∃ h', e = .returned (.tuple #[.int .i64 (postSeq js ent p kind of xs), .int .i64 (postE js ent p kind of xs)]) ∧ Pt kSt 28 h' b (post js ent p kind of xs) ∧ Upd h h' w w'
theorem RPostAns.no {b : Nat} {js : List SJ} {ent : ByteArray} {p kind of : Int} {xs : List SItem} {h : Hp} {w w' : World} {E : Int} (hE : postE js ent p kind of xs = E) (h0 : E ≠ 0) (hp : Pt kSt 28 h b js) (hs : h.sub w) (hb : Below w.heap.size w w') :
    RPostAns b js ent p kind of xs h w (.returned (.tuple #[.int .i64 0, .int .i64 E])) w' :=
  ⟨h, by unfold postSeq; rw [hE, if_neg h0], by unfold post; rw [hE, if_neg h0]; exact hp, ⟨hb.os, hb.tape, hb.output, hb.size, fun q hq _ => hb.block q hq, hs.of_below hb, fun _ hq => .inl hq⟩⟩
theorem refPost_one (b : Nat) (js : List SJ) (ent : ByteArray) (per : Int) (h : Hp) (w : World) (hs : h.sub w) (hE0 : ent.toList.isEmpty = false) (hP0 : decide (0 ≤ per ∧ per ≤ 399) = true) (S : RSto h b js)
    (D : Option Addr) (cd : Nat) (xs : List SItem) (k : Hp) (ks : k.sub w) (sy : Sl kItem k D cd xs) :
    Calls Try.prog 10 #[.pointer (some ⟨b, 0, none⟩), .string ent, .int .i64 per, .int .i64 1, .int .i64 0, .slice D xs.length cd] w (RPostAns b js ent per 1 0 xs h w) := by
  obtain ⟨cs, hb, A, ca, rfl, ow⟩ := S.pt
  have hp : Pt kSt 28 h b js := S.pt
  have hl := S.good.len
  have hbw := hs b _ hb
  have hd := hs.del b
  have hc : w.cell? ⟨b, 0, none⟩ = some (.slice A js.length ca) := by rw [cell_of_row w b 0 _ _ _ hbw]; rfl
  have m1 := ow.small
  have KC := fun (W : World) (hW : Below w.heap.size w W) => refCheck_calls D cd xs k W (ks.of_below hW) sy
  have AC := fun (W : World) (hW : Below w.heap.size w W) => refAll_calls b A ca js ent 399 (h.del b) W (hd.of_below hW) ((hW.cell (World.block_lt_of_cell? w _ hc)).trans hc) ow.sl hl S.good.lines
  have PC := fun W => refPeriod_calls per W
  rw [hP0] at PC
  have hA : argsBad ent per 1 0 = false := by
    simp only [argsBad, hE0, hP0]
    simp
  have HP : Hid (postE js ent per 1 0 xs = if (1 : Int) = 2 ∧ refRevE js ent per 0 ≠ 0 then refRevE js ent per 0 else if refLinesE js 1 0 xs ≠ 0 then 2 else if 200 ≤ js.length then 5 else if (merge (allL js ent 399 ++ xs)).any (fun x => !money x.amt) = true then 6 else 0) := by
    unfold Hid; rw [← refPost_same S.num]; unfold refPostE; rw [if_neg (by rw [hA]; decide)]
  clear hA hP0
  have htm := fun hx : checkE xs = 0 => S.num.tame2 hl ent 399 hx
  have hck := refCheck_same xs
  by_cases hC : checkE xs = 0
  · have hcb : refCheckB xs = true := by rw [← hck, hC]; rfl
    have htm := htm hC
    have hxlen := check_len hC
    rw [hcb] at KC
    have HP1 : Hid (postE js ent per 1 0 xs = if 200 ≤ js.length then 5 else if (merge (allL js ent 399 ++ xs)).any (fun x => !money x.amt) = true then 6 else 0) := by
      unfold Hid; rw [HP.out, if_neg (by simp), if_neg]; unfold refLinesE; rw [hcb]; simp
    clear HP hck hcb hC
    by_cases h2 : 200 ≤ js.length
    · have HE : Hid (postE js ent per 1 0 xs = 5) := by unfold Hid; rw [HP1.out, if_pos h2]
      clear HP1 AC htm
      go_enter Try.func10, Try.ntmps10
      go_wp2_with (go_at_call 25; refine (PC _).mono ?_; rintro e w' ⟨rfl, rfl⟩)
      refine (KC _ (Below.refl _ _)).mono ?_
      rintro e w1 ⟨rfl, BW⟩
      have hc1 := (BW.cell (p := ⟨b, 0, none⟩) (World.block_lt_of_cell? w _ hc)).trans hc
      go_wp2
      go_ret2
      exact .no HE.out (by decide) hp hs BW
    · have HP2 : Hid (postE js ent per 1 0 xs = if (merge (allL js ent 399 ++ xs)).any (fun x => !money x.amt) = true then 6 else 0) := by unfold Hid; rw [HP1.out, if_neg h2]
      have h2b : decide (200 ≤ (js.length : Int)) = false := by simp; omega
      clear HP1
      go_enter Try.func10, Try.ntmps10
      go_wp2_with (go_at_call 25; refine (PC _).mono ?_; rintro e w' ⟨rfl, rfl⟩)
      refine (KC _ (Below.refl _ _)).mono ?_
      rintro e w1 ⟨rfl, BW⟩
      have hc1 := (BW.cell (p := ⟨b, 0, none⟩) (World.block_lt_of_cell? w _ hc)).trans hc
      go_wp2_with fail
      refine (AC _ BW).mono ?_
      rintro e w2 ⟨C2, n2, h2, rfl, o2, E2⟩
      have HTM := Lib.hid htm
      have HLA : Hid ((allL js ent 399).length ≤ 4000) := by have := allL_len ent 399 js S.good.lines; have := S.good.len; unfold Hid; omega
      clear AC htm
      generalize allL js ent 399 = la at *
      have la2 := HLA.out
      go_wp2_with (first
        | (at_builtin; refine wpList_clone (B := none) Try.underlying34 info_line (by rfl) (by rfl) rfl la.length n2 (by rfl) (by rfl) rfl kItem_flat o2.sl (E2.sub 0 rfl) (by omega) (by omega) ?_; intro C3 n3 w3 h3 o3 u3; have E3 := E2.new u3; simp at E3)
        | (at_builtin; refine wpList_eappF 1 Try.underlying34 info_line E3 (by rfl) o3 sy (ks.of_below (BW.trans (E3.low.mono BW.size))) la.length xs.length rfl rfl kItem_flat (by rfl) (by rfl) rfl cd (by rfl) (by rfl) (by omega) (by omega) ?_; intro C4 n4 w4 h4 o4 E4; simp at E4)
        | fail)
      have MC := refMerge_calls C4 n4 (la ++ xs) h4 _ (E4.sub 1 rfl) o4.sl HTM.out
      rw [List.length_append] at MC
      go_wp2_with fail
      refine MC.mono ?_
      rintro e w5 ⟨C5, n5, h5, rfl, o5, u5⟩
      have E5 := E4.new u5
      simp at E5
      have BL := BW.trans (E5.low.mono BW.size)
      have s5 := E5.sub 2 rfl
      have l5 := o5.sl
      clear MC o2 o3 o4 o5 u5 E2 E3 E4 E5 HTM HLA
      generalize merge (la ++ xs) = ml at *
      have m5 := l5.small
      go_wp2
      go_loopw [142] (fun i wr => ∃ (j : Nat), j ≤ ml.length ∧ i = .int .i64 j ∧ Hid (∀ y ∈ ml.take j, (!money y.amt) = false) ∧ Below w5.heap.size w5 wr) (fun i _ => ml.length - (intOf i).toNat)
      case atStart => exact ⟨0, by omega, rfl, by unfold Hid; simp, Below.refl _ _⟩
      case round =>
        obtain ⟨j, hj, rfl, hn, hb5⟩ := hrel
        have hbr : Below w.heap.size w wr := BL.trans (hb5.mono BL.size)
        have hc2 := (hbr.cell (p := ⟨b, 0, none⟩) (World.block_lt_of_cell? w _ hc)).trans hc
        have hzr := hbr.size
        by_cases hlt : j < ml.length
        · obtain ⟨x, hx⟩ := some_of_lt hlt
          obtain ⟨b2, o2, rfl, c1, c2⟩ := l5.item (s5.of_below hb5) hx
          have i1 : (0 : Int) ≤ (j : Int) := by omega
          have i2 : (j : Int) < (ml.length : Int) := by omega
          cases hm : money x.amt with
          | true =>
            have HN : Hid (∀ y ∈ ml.take (j + 1), (!money y.amt) = false) := by
              intro y hy
              rw [take_next hx] at hy
              rcases List.mem_append.1 hy with hy | hy
              · exact hn.out y hy
              · simp at hy; subst hy; rw [hm]; rfl
            clear HP2
            go_wp2_with (go_at_call 30; refine (refMoney_calls _ _).mono ?_; rintro e w' ⟨rfl, rfl⟩)
            go_roundw
            case rel => exact ⟨j + 1, by omega, by go_num, HN, hb5.alloc hb5.size _⟩
            case measure => simp [intOf]; omega
          | false =>
            have HE := Lib.hid (HP2.out.trans (if_pos (List.any_eq_true.2 ⟨x, List.mem_of_getElem? hx.out, by rw [hm]; rfl⟩)))
            clear HP2
            go_wp2_with (go_at_call 30; refine (refMoney_calls _ _).mono ?_; rintro e w' ⟨rfl, rfl⟩)
            go_ret2
            exact .no HE.out (by decide) hp hs (hbr.alloc hbr.size _)
        · have hany : ml.any (fun x => !money x.amt) = false := by
            rw [List.any_eq_false]
            intro y hy
            rw [hn.out y (by rw [List.take_of_length_le (by omega)]; exact hy)]; decide
          have HE := Lib.hid (HP2.out.trans (by rw [hany, if_neg (by decide)]))
          clear HP2 hany
          have j1 : (0 : Int) ≤ (js.length : Int) := by omega
          have j2 : (js.length : Int) < 200 := by omega
          have hf2 : wr.frozen? ⟨b, 0, none⟩ = false := (hbr.frozen (p := ⟨b, 0, none⟩) (World.block_lt_of_cell? w _ hc)).trans (frozen_of_row w b 0 _ _ hbw)
          have hlb := Nat.lt_of_lt_of_le (World.block_lt_of_cell? w _ hc) hzr
          simp only at hlb
          have hwj : IntKind.i64.wrap ((js.length : Int) + 1) = (js.length : Int) + 1 := by rw [IntKind.wrap_i64]; omega
          go_wp2
          obtain ⟨AA, hcA, owA, hbA⟩ : ∃ X : Option Addr, wr.cell? ⟨b, 0, none⟩ = some (.slice X js.length ca) ∧ Ow kJ (h.del b) X ca js ∧ h b = some (.cells #[.slice X js.length ca] 28 (0, 0)) := ⟨_, hc2, ow, hb⟩
          refine wp_region_facts_seen (F := rpF w wr h b AA ca js ent per 1 0 xs D cd) (G := rpG w wr h b js ⟨(js.length : Int) + 1, ent, per, 1, 0, xs⟩ 28) [0, 1, 2, 3, 4, 5, 6, 7, 8, 9, 10, 11, 12, 13, 14, 15, 16, 17, 18, 19, 20, 21, 22] (by kernel_rfl) (by kernel_rfl) (by kernel_rfl) ⟨fun _ => (Below.refl _ _).drew, fun hz => by simp at hz⟩ ?_ ?_
          · intro i o ho ls a V hn hn2 cl hall g kp hd2
            have B0 := Below.refl V.heap.size V
            match i, ho with
            | 0, ho =>
              simp at ho
              subst ho
              have h0 : a.tmps[0]?.getD undef = .pointer (some ⟨b, 0, none⟩) := (kp.at (t := 0) (by kernel_rfl)).trans rfl
              refine wpOp_step (o := _) rfl ?_
              intro K' hK'
              rw [if_pos (by rfl)]
              go_simp
              exact hK' _ _ ⟨_, rfl, fun _ => rfl, rpG_below (by decide) (by decide) B0 g, fun k v _ hh => rpF_below B0 hh⟩
            | 1, ho =>
              simp at ho
              subst ho
              have h0 : a.tmps[0]?.getD undef = .pointer (some ⟨b, 0, none⟩) := (kp.at (t := 0) (by kernel_rfl)).trans rfl
              refine wpOp_step (o := _) rfl ?_
              intro K' hK'
              rw [if_pos (by rfl)]
              go_simp
              exact hK' _ _ ⟨_, rfl, fun _ => rfl, rpG_below (by decide) (by decide) B0 g, fun k v _ hh => rpF_below B0 hh⟩
            | 5, ho =>
              simp at ho
              subst ho
              have h0 : a.tmps[0]?.getD undef = .pointer (some ⟨b, 0, none⟩) := (kp.at (t := 0) (by kernel_rfl)).trans rfl
              refine wpOp_step (o := _) rfl ?_
              intro K' hK'
              rw [if_pos (by rfl)]
              go_simp
              exact hK' _ _ ⟨_, rfl, fun _ => rfl, rpG_below (by decide) (by decide) B0 g, fun k v _ hh => rpF_below B0 hh⟩
            | 2, ho =>
              simp at ho
              subst ho
              have h152 : a.tmps[152]?.getD undef = .pointer (some ⟨b, 0, none⟩) := (eval_tmp a 152).symm.trans (hd2 ⟨1, .data⟩ (by simp) rfl _ _ rfl rfl)
              refine wpOp_step (o := _) rfl ?_
              intro K' hK'
              rw [if_pos (by rfl)]
              go_simp
              exact hK' _ _ ⟨_, rfl, fun _ => rfl, rpG_below (by decide) (by decide) B0 g, fun k v _ hh => rpF_below B0 hh⟩
            | 6, ho =>
              simp at ho
              subst ho
              have h156 : a.tmps[156]?.getD undef = .pointer (some ⟨b, 0, none⟩) := (eval_tmp a 156).symm.trans (hd2 ⟨5, .data⟩ (by simp) rfl _ _ rfl rfl)
              refine wpOp_step (o := _) rfl ?_
              intro K' hK'
              rw [if_pos (by rfl)]
              go_simp
              exact hK' _ _ ⟨_, rfl, fun _ => rfl, rpG_below (by decide) (by decide) B0 g, fun k v _ hh => rpF_below B0 hh⟩
            | 20, ho =>
              simp at ho
              subst ho
              have h151 : a.tmps[151]?.getD undef = .pointer (some ⟨b, 0, none⟩) := (eval_tmp a 151).symm.trans (hd2 ⟨0, .data⟩ (by simp) rfl _ _ rfl rfl)
              refine wpOp_step (o := _) rfl ?_
              intro K' hK'
              rw [if_pos (by rfl)]
              go_simp
              exact hK' _ _ ⟨_, rfl, fun _ => rfl, rpG_below (by decide) (by decide) B0 g, fun k v _ hh => rpF_below B0 hh⟩
            | 3, ho =>
              simp at ho
              subst ho
              have h153 : a.tmps[153]?.getD undef = .pointer (some ⟨b, 0, none⟩) := (eval_tmp a 153).symm.trans (hd2 ⟨2, .data⟩ (by simp) rfl _ _ rfl rfl)
              refine wpOp_step (o := _) rfl ?_
              intro K' hK'
              rw [if_pos (by rfl)]
              go_simp
              exact hK' _ _ ⟨_, rfl, fun _ => rfl, rpG_below (by decide) (by decide) B0 g, fun k v _ hh => rpF_below B0 hh⟩
            | 7, ho =>
              simp at ho
              subst ho
              have h157 : a.tmps[157]?.getD undef = .pointer (some ⟨b, 0, none⟩) := (eval_tmp a 157).symm.trans (hd2 ⟨6, .data⟩ (by simp) rfl _ _ rfl rfl)
              refine wpOp_step (o := _) rfl ?_
              intro K' hK'
              rw [if_pos (by rfl)]
              go_simp
              exact hK' _ _ ⟨_, rfl, fun _ => rfl, rpG_below (by decide) (by decide) B0 g, fun k v _ hh => rpF_below B0 hh⟩
            | 21, ho =>
              simp at ho
              subst ho
              have h171 : a.tmps[171]?.getD undef = .pointer (some ⟨b, 0, none⟩) := (eval_tmp a 171).symm.trans (hd2 ⟨20, .data⟩ (by simp) rfl _ _ rfl rfl)
              refine wpOp_step (o := _) rfl ?_
              intro K' hK'
              rw [if_pos (by rfl)]
              go_simp
              exact hK' _ _ ⟨_, rfl, fun _ => rfl, rpG_below (by decide) (by decide) B0 g, fun k v _ hh => rpF_below B0 hh⟩
            | 4, ho =>
              simp at ho
              subst ho
              have h154 : a.tmps[154]?.getD undef = .pointer (some ⟨b, 0, none⟩) := (eval_tmp a 154).symm.trans (hd2 ⟨3, .data⟩ (by simp) rfl _ _ rfl rfl)
              have n19 : ls.getD 19 false = false := by
                cases hq : ls.getD 19 false with
                | false => rfl
                | true =>
                  have q4 := cl.up (k := 19) rfl hq ⟨4, .data⟩ (by simp) rfl
                  simp only at q4; rw [q4] at hn; cases hn
              have BV := g.1 n19
              have c0 := (BV.cell (p := ⟨b, 0, none⟩) (World.block_lt_of_cell? _ _ hcA)).trans hcA
              refine wpOp_step (o := _) rfl ?_
              intro K' hK'
              rw [if_pos (by rfl)]
              go_simp
              exact hK' _ _ ⟨_, rfl, fun _ => rfl, rpG_below (by decide) (by decide) B0 g, fun k v _ hh => rpF_below B0 hh⟩
            | 8, ho =>
              simp at ho
              subst ho
              have h158 : a.tmps[158]?.getD undef = .pointer (some ⟨b, 0, none⟩) := (eval_tmp a 158).symm.trans (hd2 ⟨7, .data⟩ (by simp) rfl _ _ rfl rfl)
              have n19 : ls.getD 19 false = false := by
                cases hq : ls.getD 19 false with
                | false => rfl
                | true =>
                  have q18 := cl.up (k := 19) rfl hq ⟨18, .data⟩ (by simp) rfl
                  have q17 := cl.up (k := 18) rfl q18 ⟨17, .data⟩ (by simp) rfl
                  have q10 := cl.up (k := 17) rfl q17 ⟨10, .data⟩ (by simp) rfl
                  have q9 := cl.up (k := 10) rfl q10 ⟨9, .data⟩ (by simp) rfl
                  have q8 := cl.up (k := 9) rfl q9 ⟨8, .data⟩ (by simp) rfl
                  simp only at q8; rw [q8] at hn; cases hn
              have BV := g.1 n19
              have c0 := (BV.cell (p := ⟨b, 0, none⟩) (World.block_lt_of_cell? _ _ hcA)).trans hcA
              refine wpOp_step (o := _) rfl ?_
              intro K' hK'
              rw [if_pos (by rfl)]
              go_simp
              exact hK' _ _ ⟨_, rfl, fun _ => rfl, rpG_below (by decide) (by decide) B0 g, fun k v _ hh => rpF_below B0 hh⟩
            | 9, ho =>
              simp at ho
              subst ho
              have h159 : a.tmps[159]?.getD undef = .slice AA js.length ca := (eval_tmp a 159).symm.trans (hd2 ⟨8, .data⟩ (by simp) rfl _ _ rfl rfl)
              refine wpOp_step (o := _) rfl ?_
              intro K' hK'
              rw [if_pos (by rfl)]
              go_simp
              exact hK' _ _ ⟨_, rfl, fun _ => rfl, rpG_below (by decide) (by decide) B0 g, fun k v _ hh => rpF_below B0 hh⟩
            | 10, ho =>
              simp at ho
              subst ho
              have h160 : a.tmps[160]?.getD undef = .int .i64 (js.length : Int) := (eval_tmp a 160).symm.trans (hd2 ⟨9, .data⟩ (by simp) rfl _ _ rfl rfl)
              refine wpOp_step (o := _) rfl ?_
              intro K' hK'
              rw [if_pos (by rfl)]
              go_simp
              exact hK' _ _ ⟨_, rfl, fun _ => rfl, rpG_below (by decide) (by decide) B0 g, fun k v _ hh => rpF_below B0 hh⟩
            | 11, ho =>
              simp at ho
              subst ho
              have h1 : a.tmps[1]?.getD undef = .string ent := (kp.at (t := 1) (by kernel_rfl)).trans rfl
              refine wpOp_step (o := _) rfl ?_
              intro K' hK'
              rw [if_pos (by rfl)]
              go_simp
              exact hK' _ _ ⟨_, rfl, fun _ => rfl, rpG_below (by decide) (by decide) B0 g, fun k v _ hh => rpF_below B0 hh⟩
            | 12, ho =>
              simp at ho
              subst ho
              have h2 : a.tmps[2]?.getD undef = .int .i64 per := (kp.at (t := 2) (by kernel_rfl)).trans rfl
              refine wpOp_step (o := _) rfl ?_
              intro K' hK'
              rw [if_pos (by rfl)]
              go_simp
              exact hK' _ _ ⟨_, rfl, fun _ => rfl, rpG_below (by decide) (by decide) B0 g, fun k v _ hh => rpF_below B0 hh⟩
            | 13, ho =>
              simp at ho
              subst ho
              have h3 : a.tmps[3]?.getD undef = .int .i64 1 := (kp.at (t := 3) (by kernel_rfl)).trans rfl
              refine wpOp_step (o := _) rfl ?_
              intro K' hK'
              rw [if_pos (by rfl)]
              go_simp
              exact hK' _ _ ⟨_, rfl, fun _ => rfl, rpG_below (by decide) (by decide) B0 g, fun k v _ hh => rpF_below B0 hh⟩
            | 14, ho =>
              simp at ho
              subst ho
              have h4 : a.tmps[4]?.getD undef = .int .i64 0 := (kp.at (t := 4) (by kernel_rfl)).trans rfl
              refine wpOp_step (o := _) rfl ?_
              intro K' hK'
              rw [if_pos (by rfl)]
              go_simp
              exact hK' _ _ ⟨_, rfl, fun _ => rfl, rpG_below (by decide) (by decide) B0 g, fun k v _ hh => rpF_below B0 hh⟩
            | 15, ho =>
              simp at ho
              subst ho
              have h5 : a.tmps[5]?.getD undef = .slice D xs.length cd := (kp.at (t := 5) (by kernel_rfl)).trans rfl
              refine wpOp_step (o := _) rfl ?_
              intro K' hK'
              rw [if_pos (by rfl)]
              go_simp
              exact hK' _ _ ⟨_, rfl, fun _ => rfl, rpG_below (by decide) (by decide) B0 g, fun k v _ hh => rpF_below B0 hh⟩
            | 16, ho =>
              simp at ho
              subst ho
              have e166 : a.eval (.tmp 166) = .slice D xs.length cd := hd2 ⟨15, .data⟩ (by simp) rfl _ _ rfl rfl
              have n19 : ls.getD 19 false = false := by
                cases hq : ls.getD 19 false with
                | false => rfl
                | true =>
                  have q18 := cl.up (k := 19) rfl hq ⟨18, .data⟩ (by simp) rfl
                  have q17 := cl.up (k := 18) rfl q18 ⟨17, .data⟩ (by simp) rfl
                  have q16 := cl.up (k := 17) rfl q17 ⟨16, .data⟩ (by simp) rfl
                  simp only at q16; rw [q16] at hn; cases hn
              have BV := g.1 n19
              refine wpOp_step (o := _) rfl ?_
              intro K' hK'
              refine step_clone (sx := .const (.slice none 0 0)) (xx := .tmp 166) (B := none) Try.underlying34 info_line (by rfl) (by rfl) rfl xs.length cd rfl e166 rfl kItem_flat sy ((ks.of_below hbr).of_below BV) (by omega) (by omega) ?_
              intro C2 n2 V2 h2 o2 u2
              exact hK' _ _ ⟨_, rfl, fun _ => .inr ⟨C2, n2, h2, rfl, o2, u2.before BV⟩, rpG_below (by decide) (by decide) u2.below g, fun k v _ hh => rpF_below u2.below hh⟩
            | 17, ho =>
              simp at ho
              subst ho
              have n19 : ls.getD 19 false = false := by
                cases hq : ls.getD 19 false with
                | false => rfl
                | true =>
                  have q18 := cl.up (k := 19) rfl hq ⟨18, .data⟩ (by simp) rfl
                  have q17 := cl.up (k := 18) rfl q18 ⟨17, .data⟩ (by simp) rfl
                  simp only at q17; rw [q17] at hn; cases hn
              have f16 := hd2 ⟨16, .data⟩ (by simp) rfl _ _ rfl rfl
              simp only [rpF, n19, Bool.false_eq_true, false_or] at f16
              obtain ⟨C, n, h2, e9, o2, u2⟩ := f16
              have h167 := (eval_tmp a 167).symm.trans e9
              clear e9
              have h161 : a.tmps[161]?.getD undef = .int .i64 ((js.length : Int) + 1) := (eval_tmp a 161).symm.trans (hd2 ⟨10, .data⟩ (by simp) rfl _ _ rfl rfl)
              have h162 : a.tmps[162]?.getD undef = .string ent := (eval_tmp a 162).symm.trans (hd2 ⟨11, .data⟩ (by simp) rfl _ _ rfl rfl)
              have h163 : a.tmps[163]?.getD undef = .int .i64 per := (eval_tmp a 163).symm.trans (hd2 ⟨12, .data⟩ (by simp) rfl _ _ rfl rfl)
              have h164 : a.tmps[164]?.getD undef = .int .i64 1 := (eval_tmp a 164).symm.trans (hd2 ⟨13, .data⟩ (by simp) rfl _ _ rfl rfl)
              have h165 : a.tmps[165]?.getD undef = .int .i64 0 := (eval_tmp a 165).symm.trans (hd2 ⟨14, .data⟩ (by simp) rfl _ _ rfl rfl)
              refine wpOp_step (o := _) rfl ?_
              intro K' hK'
              rw [if_pos (by rfl)]
              go_simp
              exact hK' _ _ ⟨_, rfl, fun _ => .inr ⟨C, n, h2, rfl, o2, u2⟩, rpG_below (by decide) (by decide) B0 g, fun k v _ hh => rpF_below B0 hh⟩
            | 18, ho =>
              simp at ho
              subst ho
              have n19 : ls.getD 19 false = false := by
                cases hq : ls.getD 19 false with
                | false => rfl
                | true =>
                  have q18 := cl.up (k := 19) rfl hq ⟨18, .data⟩ (by simp) rfl
                  simp only at q18; rw [q18] at hn; cases hn
              have f17 := hd2 ⟨17, .data⟩ (by simp) rfl _ _ rfl rfl
              simp only [rpF, n19, Bool.false_eq_true, false_or] at f17
              obtain ⟨C, n, h2, e9, o2, u2⟩ := f17
              have h168 := (eval_tmp a 168).symm.trans e9
              clear e9
              refine wpOp_step (o := _) rfl ?_
              intro K' hK'
              rw [if_pos (by rfl)]
              go_simp
              have B1 := B0.alloc (Nat.le_refl _) (.cells #[.int .i64 ((js.length : Int) + 1), .string ent, .int .i64 per, .int .i64 1, .int .i64 0, .slice C xs.length n] 37)
              exact hK' _ _ ⟨_, rfl, fun _ => .inr ⟨C, n, h2, _, _, rfl, heap_new_at rfl, o2, u2.after B1⟩, rpG_below (by decide) (by decide) B1 g, fun k v _ hh => rpF_below B1 hh⟩
            | 19, ho =>
              simp at ho
              subst ho
              have n19 : ls.getD 19 false = false := by
                cases hq : ls.getD 19 false with
                | false => rfl
                | true =>
                  rw [hq] at hn; cases hn
              have f18 := hd2 ⟨18, .data⟩ (by simp) rfl _ _ rfl rfl
              simp only [rpF, n19, Bool.false_eq_true, false_or] at f18
              obtain ⟨C, n, h2, q, T, e169, hq2, o2, u2⟩ := f18
              have e155 : a.eval (.tmp 155) = .slice AA js.length ca := hd2 ⟨4, .data⟩ (by simp) rfl _ _ rfl rfl
              have BV := g.1 n19
              have c0 := (BV.cell (p := ⟨b, 0, none⟩) (World.block_lt_of_cell? _ _ hcA)).trans hcA
              have f0 := (BV.frozen (p := ⟨b, 0, none⟩) (World.block_lt_of_cell? _ _ hcA)).trans hf2
              have hdr := hd.of_below hbr
              have h2b := u2.new_none (World.block_lt_of_cell? _ _ hcA)
              refine wpOp_step (o := _) rfl ?_
              intro K' hK'
              refine step_app1 (sx := .tmp 155) (xx := .tmp 169) (hx := h2) (h := h.del b) (xs := js) (cap := ca) (y := ⟨(js.length : Int) + 1, ent, per, 1, 0, xs⟩) Try.underlying26 info_jou (by rfl) (by rfl) rfl js.length 1 e155 e169 rfl owA (hdr.of_below BV) hq2 ⟨C, n, rfl, o2⟩ u2.sub (u2.apart (fun _ e => absurd rfl e) hdr).symm (by omega) (by omega) ?_
              intro C3 n3 V3 h3 o3 u3
              have hs9 := getD_set_self (ls := ls) (i := 19) hn2
              exact hK' _ _ ⟨_, rfl, fun _ => .inr ⟨C3, n3, h3, rfl, o3, u2.eat u3, u3.cell c0 (by simp [Hp.or, Hp.del_self, h2b]), (u3.frozen (p := ⟨b, 0, none⟩) (World.block_lt_of_cell? _ _ c0) (by simp [Hp.or, Hp.del_self, h2b])).trans f0⟩, ⟨fun hz => (by rw [hs9] at hz; cases hz), fun hz => by rw [Go.Sl.getD_set_ne (show (19 : Nat) ≠ 22 by decide)] at hz; exact absurd (cl.up (k := 22) rfl hz ⟨19, .data⟩ (by simp) rfl) (by simp only; rw [n19]; decide)⟩, fun k v hk hh => rpF_eat hk hs9 hh⟩
            | 22, ho =>
              simp at ho
              subst ho
              have h172 : a.tmps[172]?.getD undef = .pointer (some ⟨b, 0, none⟩) := (eval_tmp a 172).symm.trans (hd2 ⟨21, .data⟩ (by simp) rfl _ _ rfl rfl)
              have f19 := hd2 ⟨19, .data⟩ (by simp) rfl _ _ rfl rfl
              simp only [rpF, hn, Bool.false_eq_true, false_or] at f19
              obtain ⟨C3, n3, h3, e9, o3, u3, c0, f0⟩ := f19
              have h170 := (eval_tmp a 170).symm.trans e9
              clear e9
              obtain ⟨UF, hn3⟩ := Upd.field (v := .slice C3 (js.length + 1) n3) 0 hbA hs (Hp.le_refl _) (u3.before hbr)
              have l19 := hall ⟨19, .data⟩ (by simp) rfl
              refine wpOp_step (o := _) rfl ?_
              intro K' hK'
              rw [if_pos (by rfl)]
              go_simp
              have hs9 := getD_set_self (ls := ls) (i := 22) hn2
              exact hK' _ _ ⟨undef, rfl, fun hz => absurd rfl hz, ⟨fun hz => (by rw [getD_up l19] at hz; cases hz), fun _ => ⟨C3, n3, h3, o3, UF, hn3⟩⟩, fun k v _ hh => rpF_end hs9 l19 hh⟩
            | k + 23, ho => exact absurd ho (by simp)
          · intro ls a' V hl g kp _
            obtain ⟨C3, n3, h3, ho3, UF, hn3⟩ := g.2 (hl 22 (by simp))
            have ha := kp.act [151, 152, 153, 154, 155, 156, 157, 158, 159, 160, 161, 162, 163, 164, 165, 166, 167, 168, 169, 170, 171, 172] (by kernel_rfl)
            simp only [layAll, List.foldl_cons, List.foldl_nil] at ha
            clear kp g hl
            generalize a'.eval (.tmp 151) = s151 at ha
            generalize a'.eval (.tmp 152) = s152 at ha
            generalize a'.eval (.tmp 153) = s153 at ha
            generalize a'.eval (.tmp 154) = s154 at ha
            generalize a'.eval (.tmp 155) = s155 at ha
            generalize a'.eval (.tmp 156) = s156 at ha
            generalize a'.eval (.tmp 157) = s157 at ha
            generalize a'.eval (.tmp 158) = s158 at ha
            generalize a'.eval (.tmp 159) = s159 at ha
            generalize a'.eval (.tmp 160) = s160 at ha
            generalize a'.eval (.tmp 161) = s161 at ha
            generalize a'.eval (.tmp 162) = s162 at ha
            generalize a'.eval (.tmp 163) = s163 at ha
            generalize a'.eval (.tmp 164) = s164 at ha
            generalize a'.eval (.tmp 165) = s165 at ha
            generalize a'.eval (.tmp 166) = s166 at ha
            generalize a'.eval (.tmp 167) = s167 at ha
            generalize a'.eval (.tmp 168) = s168 at ha
            generalize a'.eval (.tmp 169) = s169 at ha
            generalize a'.eval (.tmp 170) = s170 at ha
            generalize a'.eval (.tmp 171) = s171 at ha
            generalize a'.eval (.tmp 172) = s172 at ha
            simp only [Act.put, List.setIfInBounds_toArray, List.set_cons_succ, List.set_cons_zero] at ha
            subst ha
            refine ‹∀ (a : Act) (w : World), Code.wp _ _ _ a w → _› _ _ ?_
            have hcV : V.cell? ⟨b, 0, none⟩ = some (.slice C3 (js.length + 1) n3) := by rw [cell_of_row V b 0 _ _ _ (UF.sub b _ Hp.put_self)]; rfl
            go_wp2
            go_ret2
            exact ⟨_, by unfold postSeq; rw [HE.out]; rfl, ⟨_, Hp.put_self, C3, n3, by unfold post; rw [HE.out, if_pos rfl, List.length_append]; rfl, by rw [Hp.put_del hn3]; unfold post; rw [HE.out, if_pos rfl]; exact ho3⟩, UF⟩
  · have hcb : refCheckB xs = false := by rw [← hck]; simpa using hC
    rw [hcb] at KC
    have HE : Hid (postE js ent per 1 0 xs = 2) := by
      unfold Hid; rw [HP.out, if_neg (by simp), if_pos]; unfold refLinesE; rw [hcb]; simp
    clear HP hck hcb hC AC htm
    go_enter Try.func10, Try.ntmps10
    go_wp2_with (go_at_call 25; refine (PC _).mono ?_; rintro e w' ⟨rfl, rfl⟩)
    refine (KC _ (Below.refl _ _)).mono ?_
    rintro e w1 ⟨rfl, BW⟩
    go_wp2
    go_ret2
    exact .no HE.out (by decide) hp hs BW
end Go.Proofs.Ytbaklmlnfdlmmaa
end
