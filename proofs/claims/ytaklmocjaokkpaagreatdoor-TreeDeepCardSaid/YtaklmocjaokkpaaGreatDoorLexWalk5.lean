/- The lexer's function digits, walked: is a word a number's? No condition but a string's size. -/
import Derived.Test.YtaklmocjaokkpaaGreatDoorLexWalk4
import Derived.Shelf.Strings.SlTrimAscii
namespace Go.Proofs.YtaklmocjaokkpaaGreatDoor.Lx
open Go.RowKit Go.Proofs.YtaklmocjaokkpaaGreatDoor.Mem

theorem dropWhile_nil {p : UInt8 → Bool} {l : List UInt8} : l.dropWhile p = [] ↔ l.all p = true := by
  induction l with
  | nil => simp
  | cons a l ih =>
    rw [List.dropWhile_cons]
    cases h : p a with
    | true => simp [h, ih]
    | false => simp [h]
theorem trim_all (l cs : List UInt8) : (Lib.trimS l cs).isEmpty = l.all (cs.contains ·) := by
  have h : Lib.trimS l cs = [] ↔ l.all (cs.contains ·) = true := by
    unfold Lib.trimS Lib.trimLeftS Lib.trimRightS
    rw [dropWhile_nil, List.all_reverse]
    constructor
    · intro h
      rcases hd : l.reverse.dropWhile (cs.contains ·) with _ | ⟨a, r⟩
      · have := dropWhile_nil.1 hd
        rwa [List.all_reverse] at this
      · have h2 : (l.reverse.dropWhile (cs.contains ·)).head? = some a := by rw [hd]; rfl
        have h3 := List.head?_dropWhile_not (fun x => cs.contains x) l.reverse
        rw [h2] at h3
        rw [hd] at h
        simp at h h3
        exact absurd h.1 h3
    · intro h
      have := (dropWhile_nil (l := l.reverse) (p := (cs.contains ·))).2 (by rwa [List.all_reverse])
      rw [this]; rfl
  cases h2 : l.all (cs.contains ·) with
  | true => rw [h.2 h2]; rfl
  | false =>
    cases h3 : Lib.trimS l cs with
    | nil => rw [h.1 h3] at h2; cases h2
    | cons a r => rfl
theorem digit_set (c : UInt8) : ([48, 49, 50, 51, 52, 53, 54, 55, 56, 57] : List UInt8).contains c = isDigit c := by
  have : ∀ n : Fin 256, ([48, 49, 50, 51, 52, 53, 54, 55, 56, 57] : List UInt8).contains (UInt8.ofNat n.val) = isDigit (UInt8.ofNat n.val) := by decide +kernel
  have h := this ⟨c.toNat, c.toNat_lt⟩
  simpa using h
theorem prefix_minus (l : List UInt8) : Lib.trimPrefix l [45] = if l.head? = some 45 then l.tail else l := by
  unfold Lib.trimPrefix Lib.hasPrefix
  cases l with
  | nil => rfl
  | cons a r =>
    by_cases h : a = 45
    · subst h; simp [List.isPrefixOf]
    · simp [List.isPrefixOf, h, Ne.symm h]

set_option maxHeartbeats 1000000 in
theorem digits_calls (s : ByteArray) (w : World) (hs : s.size ≤ 65536) :
    Calls Tryz.prog 115 #[.string s] w fun e w' => e = .returned (.bool (isNum s.data.toList)) ∧ Below w.heap.size w w' := by
  obtain ⟨d, hd⟩ : ∃ d, d = Lib.trimPrefix s.data.toList [45] := ⟨_, rfl⟩
  have H1 : Hid (Calls Tryz.prog 127 #[.string s, .string ⟨#[45]⟩] w fun e w' => e = .returned (.string ⟨d.toArray⟩) ∧ w' = w) := by
    rw [hd]; exact Tryz.strings_TrimPrefix s ⟨#[45]⟩ w
  have hN : Hid (isNum s.data.toList = (!d.isEmpty && d.all isDigit)) := by
    rw [hd, prefix_minus]; rfl
  have hl : d.length ≤ s.size := by
    rw [hd, prefix_minus, ← len_is]
    split <;> simp
  have H2 : Hid (∀ w, Calls Tryz.prog 128 #[.string ⟨d.toArray⟩, .string ⟨#[48, 49, 50, 51, 52, 53, 54, 55, 56, 57]⟩] w fun e w' => e = .returned (.string ⟨(Lib.trimS d [48, 49, 50, 51, 52, 53, 54, 55, 56, 57]).toArray⟩) ∧ Below w.heap.size w w') := fun w => by
    have := Any.strings_Trim_laid Tryz.lays160 (by kernel_rfl) ⟨d.toArray⟩ ⟨#[48, 49, 50, 51, 52, 53, 54, 55, 56, 57]⟩ w (by show d.toArray.size ≤ _; simp; omega) (by decide) (ascii_of_all (by decide))
    exact this
  obtain ⟨t, ht⟩ : ∃ t, t = Lib.trimS d [48, 49, 50, 51, 52, 53, 54, 55, 56, 57] := ⟨_, rfl⟩
  rw [← ht] at H2
  have hT : Hid (t.isEmpty = d.all isDigit) := by
    rw [ht, trim_all]
    congr 1
    funext c
    exact digit_set c
  clear hd ht hl
  cases h : d.isEmpty with
  | true =>
    have HE := Lib.hid h
    have h1 : (!d.isEmpty) = false := by rw [h]; rfl
    go_enter Tryz.func115, Tryz.ntmps115
    go_wp2_with fail
    refine H1.out.mono ?_
    rintro e w1 ⟨rfl, rfl⟩
    go_wp2_with fail
    go_ret
    rw [hN.out, HE.out]
    exact ⟨rfl, Below.refl _ _⟩
  | false =>
    have HE := Lib.hid h
    have h1 : (!d.isEmpty) = true := by rw [h]; rfl
    go_enter Tryz.func115, Tryz.ntmps115
    go_wp2_with fail
    refine H1.out.mono ?_
    rintro e w1 ⟨rfl, rfl⟩
    go_wp2_with fail
    refine (H2.out _).mono ?_
    rintro e w1 ⟨rfl, hb⟩
    go_wp2_with fail
    go_ret
    rw [hN.out, HE.out, ← hT.out]
    exact ⟨rfl, hb⟩
end Go.Proofs.YtaklmocjaokkpaaGreatDoor.Lx
