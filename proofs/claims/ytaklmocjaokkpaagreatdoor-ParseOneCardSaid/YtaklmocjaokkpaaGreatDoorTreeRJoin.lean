/- The document's join, walked; and an append of a row of texts that came in, empty or not. Condition: the joined text has at most 2^46 bytes. -/
import Derived.Test.YtaklmocjaokkpaaGreatDoorTreeRPrPlain
import Derived.Test.YtaklmocjaokkpaaGreatDoorTreeRTakes
import Derived.Test.YtaklmocjaokkpaaGreatDoorTreeHead2
import Derived.Test.YtaklmocjaokkpaaGreatDoorTreeClauses
namespace Go.Proofs.YtaklmocjaokkpaaGreatDoor.Tr
set_option linter.unusedVariables false
set_option linter.unusedSimpArgs false
open Go.RowKit Go.Shelf Go.Proofs.YtaklmocjaokkpaaGreatDoor.Mem

section
variable {P : Program}
theorem run_append_strs (w : World) (t ty e : TypeId) (i : TypeInfo) (z : Value) (bytes : Nat) (ht : P.underlying t = some (.slice e)) (hi : P.info? e = some i) (hz : i.zero = some z)
    (hsize : i.size = 1) (hby : i.bytes = bytes) (hzs : z.cells.size = 1)
    (v : Value) (n : Nat) (xs : List Value) (hown : RowAt w e 1 v n xs) (x : Value) (l : List ByteArray) (m : Nat) (hsrc : StrsIn w x l) (hm : l.length = m)
    (h63 : n + m ≤ maxLen) (hbytes : (n + m) * bytes ≤ 140737488355328) :
    ∃ v' w', (Builtin.append_ #[t, t] ty #[v, x]).run P w = .ok v' w' ∧ RowAt w' e 1 v' (n + m) (xs ++ l.map Value.string) ∧ w.grownBy w' v.ownBlock ∧
      (∀ k, v'.ownBlock = some k → v.ownBlock = some k ∨ k = w.heap.size) := by
  subst hm
  rcases Nat.eq_zero_or_pos l.length with h0 | hm
  · obtain ⟨ad, cap, rfl, hc1, hc2⟩ := hown.form
    obtain ⟨ad2, cap2, rfl, _, _⟩ := hsrc
    obtain rfl : l = [] := List.eq_nil_of_length_eq_zero h0
    exact ⟨_, w, run_append_none w t ty e i ht hi ad n cap hc1 ad2 cap2, by simpa using hown, ⟨rfl, rfl, rfl, Nat.le_refl _, fun _ _ _ => rfl⟩, fun k hk => .inl hk⟩
  · obtain ⟨ad2, cap2, rfl, h1, h2, h3⟩ := hsrc
    obtain ⟨b, off, rfl, _, _⟩ := h3 0 _ (List.getElem?_eq_getElem hm)
    refine run_append_row w t ty e i z 1 bytes ht hi hz hsize hby hzs (by decide) v n xs hown ⟨b, off, none⟩ l.length cap2 (l.map Value.string) (by simp) (fun j u hu => ?_) (fun u hu => ?_) hm h63 hbytes
    · rw [List.getElem?_map] at hu
      cases hs : l[j]? with
      | none => rw [hs] at hu; cases hu
      | some s =>
        rw [hs] at hu
        obtain ⟨b', off', e1, _, hc⟩ := h3 j s hs
        cases e1
        have hadd : (⟨b, off, none⟩ : Addr).add j = ⟨b, off + j, none⟩ := by unfold Addr.add; split <;> simp_all
        rw [hadd, hc]
        simpa using hu
    · obtain ⟨s, _, rfl⟩ := List.mem_map.1 hu
      rfl
theorem wpList_append_strs {ops : Array Oper} {rest : List Oper} {o : Oper} {a : Act} (w : World) {Q : Exit → Act → World → Prop} (hgd : o.guard = none) (s x : Operand) (t : TypeId)
    (ho : o.op = .call { callee := .builtin .append, args := #[s, x], argTypes := #[t, t] })
    (e : TypeId) (i : TypeInfo) (z : Value) (bytes : Nat) (ht : P.underlying t = some (.slice e)) (hi : P.info? e = some i) (hz : i.zero = some z)
    (hsize : i.size = 1) (hby : i.bytes = bytes) (hzs : z.cells.size = 1)
    (v : Value) (n : Nat) (xs : List Value) (hs : a.eval s = v) (hown : RowAt w e 1 v n xs)
    (xv : Value) (l : List ByteArray) (m : Nat) (hx : a.eval x = xv) (hsrc : StrsIn w xv l) (hm : l.length = m)
    (h63 : n + m ≤ maxLen) (hbytes : (n + m) * bytes ≤ 140737488355328) (H : Nat) (hH : w.heap.size = H)
    (h : ∀ ad cap w', RowAt w' e 1 (.slice ad (n + m) cap) (n + m) (xs ++ l.map Value.string) → w.grownBy w' v.ownBlock → (∀ g, (Value.slice ad (n + m) cap).ownBlock = some g → (v.ownBlock = some g ∨ g = H) ∧ g < w'.heap.size) → wpList P ops Q rest (a.put o.dst (.slice ad (n + m) cap)) w') :
    wpList P ops Q (o :: rest) a w := by
  refine wpList_plain hgd fun _ hK => ?_
  obtain ⟨v', w', hr, h2, h3, h4⟩ := run_append_strs (P := P) w t o.type e i z bytes ht hi hz hsize hby hzs v n xs hown xv l m hsrc hm h63 hbytes
  unfold Oper.wp execOp
  simp only [ho, resolve, invoke, builtin, Sem.run_bind, Sem.run_pure, Result.andThen_ok, List.map_toArray, List.map_cons, List.map_nil, hs, hx, hr]
  obtain ⟨ad, cap, rfl, _⟩ := h2.form
  exact hK _ _ (h ad cap w' h2 h3 (fun g hg => ⟨by have := h4 g hg; rw [hH] at this; exact this, h2.lt g hg⟩))
end
theorem joinL_take_le (ns : List ByteArray) (k : Nat) : (joinL (ns.take k)).length ≤ (joinL ns).length := by
  by_cases h : ns.take k = []
  · rw [h]; exact Nat.zero_le _
  · have : joinL ns = joinL (ns.take k) ++ (ns.drop k).flatMap (fun s => 32 :: bl s) := by rw [← join_app _ _ h, List.take_append_drop]
    rw [this, List.length_append]
    omega
set_option maxRecDepth 100000 in
set_option maxHeartbeats 1000000 in
theorem rjoin_calls (ns : List ByteArray) (nv : Value) (w : World) (h : StrsIn w nv ns) (hl : (joinL ns).length ≤ 70368744177664) :
    Calls Tryz.prog 39 #[nv] w fun e w' => e = .returned (.string ⟨(joinL ns).toArray⟩) ∧ w' = w := by
  obtain ⟨ad, cap, rfl, hlc, hcm, hel⟩ := h
  obtain ⟨n, hn⟩ : ∃ n, ns.length = n := ⟨_, rfl⟩
  have HN := Lib.hid hn
  have HEL := Lib.hid hel
  have HL := Lib.hid hl
  rw [hn] at hlc ⊢
  have hmx : cap ≤ 9223372036854775807 := by unfold maxLen at hcm; omega
  obtain ⟨res, hres⟩ : ∃ res : ByteArray, (⟨(joinL ns).toArray⟩ : ByteArray) = res := ⟨_, rfl⟩
  have HRES := Lib.hid hres
  rw [hres]
  clear hel hn hcm hres hl
  go_enter Tryz.func39, Tryz.ntmps39
  go_wp2_with fail
  go_loopg [3, 7] (n + 1) (fun g vo vi wr => ∃ (k : Nat) (s : ByteArray), vi = .int .i64 k ∧ vo = .string s ∧ k ≤ n ∧ n < g + k ∧ wr = w ∧ Hid (bl s = joinL (ns.take k)))
  case atStart => exact ⟨0, _, rfl, rfl, by omega, by omega, rfl, rfl⟩
  case round =>
    obtain ⟨k, s, rfl, rfl, hk, hg, hqw, hbs⟩ := hrel
    obtain rfl : w = wr := hqw.symm
    by_cases hlt : k < n
    · obtain ⟨gk', rfl⟩ : ∃ q, gk = q + 1 := ⟨gk - 1, by omega⟩
      obtain ⟨x, hx⟩ : ∃ x, ns[k]? = some x := ⟨_, List.getElem?_eq_getElem (by rw [HN.out]; exact hlt)⟩
      obtain ⟨b, off, rfl, _, c0⟩ := HEL.out k x hx
      have hst : ns.take (k + 1) = ns.take k ++ [x] := by rw [List.take_add_one, hx]; rfl
      have hle := joinL_take_le ns (k + 1)
      have HLL := HL.out
      have i0 : (0 : Int) ≤ (k : Int) := by omega
      have i1 : (k : Int) < (n : Int) := by omega
      by_cases hk0 : k = 0
      · subst hk0
        rw [Nat.add_zero] at c0
        have hs0 : bl s = [] := hbs.out
        have HB2 : Hid (bl (s ++ x) = joinL (ns.take (0 + 1))) := Lib.hid (by
          rw [hst, List.take_zero, List.nil_append, join_sing, ← List.nil_append (bl x), ← hs0]
          simp [bl])
        have hs1 : s.size = 0 := by rw [← bl_len, hs0]; rfl
        have hx1 : x.size ≤ 70368744177664 := by rw [hst, List.take_zero, List.nil_append, join_sing, bl_len] at hle; omega
        have j0 : ¬ (0 : Int) < ((0 : Nat) : Int) := by omega
        clear hx hst hle hs0
        go_wp2_with fail
        go_roundg gk'
        case measure => omega
        case rel => exact ⟨0 + 1, s ++ x, by go_num, rfl, by omega, by omega, rfl, HB2⟩
      · have j0 : (0 : Int) < (k : Int) := by omega
        have hne : ns.take k ≠ [] := fun e => by
          have : (ns.take k).length = 0 := by rw [e]; rfl
          rw [List.length_take, HN.out] at this
          omega
        have HB2 : Hid (bl ((s ++ ⟨#[32]⟩) ++ x) = joinL (ns.take (k + 1))) := Lib.hid (by
          rw [hst, join_snoc _ _ hne, ← hbs.out]
          simp [bl])
        have hsz : s.size + 1 + x.size ≤ 70368744177664 := by
          rw [hst, join_snoc _ _ hne, List.length_append, List.length_cons, bl_len, ← hbs.out, bl_len] at hle
          omega
        have hsz2 : s.size ≤ 70368744177664 := by omega
        have hsz3 : (s ++ (⟨#[32]⟩ : ByteArray)).size = s.size + 1 := by rw [ByteArray.size_append]; rfl
        have hx1 : x.size ≤ 70368744177664 := by omega
        have hsz4 : (s ++ (⟨#[32]⟩ : ByteArray)).size ≤ 70368744177664 := by omega
        clear hx hst hle hne
        go_wp2_with fail
        go_roundg gk'
        case measure => omega
        case rel => exact ⟨k + 1, _, by go_num, rfl, by omega, by omega, rfl, HB2⟩
    · obtain rfl : k = n := by omega
      have hkk : ¬ (k : Int) < (k : Int) := by omega
      have hall : ns.take k = ns := List.take_of_length_le (by rw [HN.out]; exact Nat.le_refl _)
      have hr : s = res := by
        rw [← HRES.out]
        exact ba_mk _ _ (by have := hbs.out; rw [hall] at this; exact this)
      clear hall
      subst hr
      go_wp2_with fail
      go_ret
      exact ⟨rfl, rfl⟩
end Go.Proofs.YtaklmocjaokkpaaGreatDoor.Tr
