/- The store's functions, in a body's own memory. -/
import Derived.Test.YtnpnndifhlihhaaStoreNew
import Derived.Test.YtnpnndifhlihhaaTrial
namespace Go.Sl
/-- What holds of all stores. -/
structure GoodS (js : List SJ) : Prop where
  len : js.length ≤ 200
  lines : ∀ x ∈ js, x.lines.length ≤ 20
theorem GoodS.nil : GoodS [] := ⟨by simp, by simp⟩
theorem postE_len {js : List SJ} {ent : ByteArray} {p kind of : Int} {xs : List SItem} (h : postE js ent p kind of xs = 0) : js.length < 200 ∧ checkE xs = 0 := by
  unfold postE at h
  split at h
  · cases h
  · split at h
    · contradiction
    · rename_i h2
      have h3 : linesE js ent p kind of xs = 0 := by simpa using h2
      split at h
      · cases h
      · exact ⟨by omega, Proofs.Ytnpnndifhlihhaa.linesE_zero h3⟩
theorem post_ok {js : List SJ} {ent : ByteArray} {p kind of : Int} {xs : List SItem} (h : postE js ent p kind of xs = 0) : post js ent p kind of xs = js ++ [⟨js.length + 1, ent, p, kind, of, xs⟩] := by unfold post; rw [if_pos h]
theorem post_no {js : List SJ} {ent : ByteArray} {p kind of : Int} {xs : List SItem} (h : postE js ent p kind of xs ≠ 0) : post js ent p kind of xs = js := by unfold post; rw [if_neg h]
theorem GoodS.post {js : List SJ} {ent : ByteArray} {p kind of : Int} {xs : List SItem} (g : GoodS js) : GoodS (post js ent p kind of xs) := by
  by_cases h : postE js ent p kind of xs = 0
  · rw [post_ok h]
    have h2 := postE_len h
    have h3 := Proofs.Ytnpnndifhlihhaa.check_len h2.2
    refine ⟨by simp; omega, fun x hx => ?_⟩
    rcases List.mem_append.1 hx with hx | hx
    · exact g.lines x hx
    · simp at hx; subst hx; exact h3
  · rw [post_no h]; exact g
end Go.Sl
namespace Go.Proofs.Ytnpnndifhlihhaa
open Go.RowKit Go.Sl
set_option maxHeartbeats 1000000
set_option maxRecDepth 100000
/-- A store at a pointer. -/
structure Sto (h : Hp) (b : Nat) (js : List SJ) : Prop where
  pt : Pt kSt 93 h b js
  good : GoodS js
section
variable {w0 w : World} {l : List Hp} {h : Hp} {b : Nat} {js : List SJ}
theorem Sto.new (E : Env w0 w l) : Calls Try.prog 38 #[] w fun e w' => ∃ h b, e = .returned (.pointer (some ⟨b, 0, none⟩)) ∧ Sto h b [] ∧ Env w0 w' (l ++ [h]) :=
  (storeNew_calls w).mono fun _ _ ⟨h, b, he, hp, u⟩ => ⟨h, b, he, ⟨hp, GoodS.nil⟩, E.new u⟩
theorem Sto.post_any (S : Sto h b js) (E : Env w0 w l) (i : Nat) (hi : l[i]? = some h) (ent : ByteArray) (per kind of : Int) {D : Option Addr} {cd : Nat} {xs : List SItem} {k : Hp} (sy : Sl kItem k D cd xs) (ks : k.sub w) :
    Calls Try.prog 39 #[.pointer (some ⟨b, 0, none⟩), .string ent, .int .i64 per, .int .i64 kind, .int .i64 of, .slice D xs.length cd] w fun e w' =>
      ∃ h', e = .returned (.tuple #[.int .i64 (postSeq js ent per kind of xs), .int .i64 (postE js ent per kind of xs)]) ∧ Sto h' b (post js ent per kind of xs) ∧ Env w0 w' (l.set i h') :=
  (post_calls b js ent per kind of h w (E.sub i hi) S.pt (by have := S.good.len; omega) (fun x hx => by have := S.good.lines x hx; omega) D cd xs k ks sy).mono fun _ _ ⟨h', he, hp, u⟩ => ⟨h', he, ⟨hp, S.good.post⟩, E.upd i hi u⟩
theorem Sto.post_ok (S : Sto h b js) (E : Env w0 w l) (i : Nat) (hi : l[i]? = some h) {ent : ByteArray} {per kind of : Int} {D : Option Addr} {cd : Nat} {xs : List SItem} {k : Hp} (sy : Sl kItem k D cd xs) (ks : k.sub w) (n : Nat) (hn : xs.length = n) (hE : postE js ent per kind of xs = 0) (m : Int) (hm : (js.length : Int) + 1 = m) :
    Calls Try.prog 39 #[.pointer (some ⟨b, 0, none⟩), .string ent, .int .i64 per, .int .i64 kind, .int .i64 of, .slice D n cd] w fun e w' =>
      ∃ h', e = .returned (.tuple #[.int .i64 m, .int .i64 0]) ∧ Sto h' b (js ++ [⟨m, ent, per, kind, of, xs⟩]) ∧ Env w0 w' (l.set i h') := by
  subst hn
  subst hm
  refine (S.post_any E i hi ent per kind of sy ks).mono ?_
  rintro e w' ⟨h', he, hp, E'⟩
  rw [Go.Sl.post_ok hE] at hp
  exact ⟨h', by rw [he]; unfold postSeq; rw [hE, if_pos rfl], hp, E'⟩
theorem Sto.post_no (S : Sto h b js) (E : Env w0 w l) (i : Nat) (hi : l[i]? = some h) {ent : ByteArray} {per kind of : Int} {D : Option Addr} {cd : Nat} {xs : List SItem} {k : Hp} (sy : Sl kItem k D cd xs) (ks : k.sub w) (n : Nat) (hn : xs.length = n) {q : Int} (hE : postE js ent per kind of xs = q) (h0 : q ≠ 0) :
    Calls Try.prog 39 #[.pointer (some ⟨b, 0, none⟩), .string ent, .int .i64 per, .int .i64 kind, .int .i64 of, .slice D n cd] w fun e w' =>
      ∃ h', e = .returned (.tuple #[.int .i64 0, .int .i64 q]) ∧ Sto h' b js ∧ Env w0 w' (l.set i h') := by
  subst hn
  subst hE
  refine (S.post_any E i hi ent per kind of sy ks).mono ?_
  rintro e w' ⟨h', he, hp, E'⟩
  rw [Go.Sl.post_no h0] at hp
  exact ⟨h', by rw [he]; unfold postSeq; rw [if_neg h0], hp, E'⟩
theorem Sto.balance (S : Sto h b js) (E : Env w0 w l) (i : Nat) (hi : l[i]? = some h) {ent : ByteArray} {a upto : Int} {q : Int} (hq : balance js ent a upto = q) :
    Calls Try.prog 42 #[.pointer (some ⟨b, 0, none⟩), .string ent, .int .i64 a, .int .i64 upto] w fun e w' => e = .returned (.int .i64 q) ∧ Env w0 w' l := by
  subst hq
  exact (balance_at S.pt (E.sub i hi) (by have := S.good.len; omega) ent a upto).mono fun _ _ ⟨he, b⟩ => ⟨he, E.below b⟩
theorem Sto.trial (S : Sto h b js) (E : Env w0 w l) (i : Nat) (hi : l[i]? = some h) {ent : ByteArray} {upto : Int} {q : List SItem} (hq : trial js ent upto = q) :
    Calls Try.prog 43 #[.pointer (some ⟨b, 0, none⟩), .string ent, .int .i64 upto] w fun e w' => ∃ C cap h', e = .returned (.slice C q.length cap) ∧ Ow kItem h' C cap q ∧ Env w0 w' (l ++ [h']) := by
  subst hq
  obtain ⟨A, ca, hc, sx⟩ := S.pt.store (E.sub i hi)
  exact (trial_calls b A ca js ent upto h w (E.sub i hi) hc sx (by have := S.good.len; omega)).mono fun _ _ ⟨C, cap, h', he, ho, u⟩ => ⟨C, cap, h', he, ho, E.new u⟩
theorem Sto.journals (S : Sto h b js) (E : Env w0 w l) (i : Nat) (hi : l[i]? = some h) :
    Calls Try.prog 40 #[.pointer (some ⟨b, 0, none⟩)] w fun e w' => ∃ C cap h', e = .returned (.slice C js.length cap) ∧ Ow kJ h' C cap js ∧ Env w0 w' (l ++ [h']) :=
  (journals_at S.pt (E.sub i hi) (by have := S.good.len; omega) (fun x hx => by have := S.good.lines x hx; omega)).mono fun _ _ ⟨C, cap, h', he, ho, u⟩ => ⟨C, cap, h', he, ho, E.new u⟩
theorem Sto.clone (S : Sto h b js) (E : Env w0 w l) (i : Nat) (hi : l[i]? = some h) :
    Calls Try.prog 44 #[.pointer (some ⟨b, 0, none⟩)] w fun e w' => ∃ h' b', e = .returned (.pointer (some ⟨b', 0, none⟩)) ∧ Sto h' b' js ∧ Env w0 w' (l ++ [h']) :=
  (clone_at S.pt (E.sub i hi) (by have := S.good.len; omega) (fun x hx => by have := S.good.lines x hx; omega)).mono fun _ _ ⟨h', b', he, hp, u⟩ => ⟨h', b', he, ⟨hp, S.good⟩, E.new u⟩
end
end Go.Proofs.Ytnpnndifhlihhaa
