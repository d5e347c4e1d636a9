/- What writers took, readers tell: the plain law. -/
import Derived.Test.YtgkiegplmohgkaaT
import Derived.Test.YtgkiegplmohgkaaK7
set_option linter.unusedVariables false
set_option linter.unusedSimpArgs false
namespace Go.Proofs.Ytgkiegplmohgkaa.F
open Go Go.RowKit Go.Proofs.Ytgkiegplmohgkaa.K

def encA (x : TAct) : List UInt8 := actX x.Do x.N x.V x.B.l
def errA (x : TAct) : Int := actE1 x.Do x.N x.V x.B.l
def encs (l : List TAct) : List UInt8 := l.flatMap encA
theorem encs_succ {l : List TAct} {i : Nat} {x : TAct} (h : l[i]? = some x) : encs (l.take (i + 1)) = encs (l.take i) ++ encA x := by
  rw [List.take_add_one, h]
  simp [encs]
theorem encs_split {l : List TAct} {i : Nat} {x : TAct} (h : l[i]? = some x) : encs l = encs (l.take i) ++ (encA x ++ encs (l.drop (i + 1))) := by
  obtain ⟨hi, hx⟩ := List.getElem?_eq_some_iff.1 h
  conv => lhs; rw [← List.take_append_drop i l, List.drop_eq_getElem_cons hi, hx]
  simp [encs]
theorem encs_drop {l : List TAct} {i : Nat} {x : TAct} (h : l[i]? = some x) : (encs l).drop (encs (l.take i)).length = encA x ++ encs (l.drop (i + 1)) := by
  rw [encs_split h, List.drop_left]
theorem encs_le {l : List TAct} {i : Nat} {x : TAct} (h : l[i]? = some x) : (encs (l.take i)).length + (encA x).length ≤ (encs l).length := by
  rw [encs_split h]
  simp only [List.length_append]
  omega
/-- After i acts. -/
def Took (l : List TAct) (i : Nat) (L : List UInt8) (e : Int) : Prop :=
  (∀ j x, j < i → l[j]? = some x → x.B.l.length ≤ 1000) ∧ (e = 0 → L = encs (l.take i) ∧ ∀ j x, j < i → l[j]? = some x → errA x = 0)
theorem Took.zero (l : List TAct) : Took l 0 [] 0 := ⟨fun j x h => absurd h (Nat.not_lt_zero _), fun _ => ⟨rfl, fun j x h => absurd h (Nat.not_lt_zero _)⟩⟩
theorem Took.step {l : List TAct} {i : Nat} {L : List UInt8} {e : Int} {x : TAct} (h : Took l i L e) (hx : l[i]? = some x) (hb : x.B.l.length ≤ 1000) {m : Int} {len : Nat} {more E1 : Int} {X : List UInt8} (h1 : E1 = errA x) (h2 : X = encA x) :
    Took l (i + 1) (addL L (addE m len e E1 more) X) (addE m len e E1 more) := by
  subst h1 h2
  have key : ∀ (p : TAct → Prop), (∀ j y, j < i → l[j]? = some y → p y) → p x → ∀ j y, j < i + 1 → l[j]? = some y → p y := by
    intro p hp hpx j y hj hy
    rcases Nat.lt_or_ge j i with h3 | h3
    · exact hp j y h3 hy
    · obtain rfl : j = i := by omega
      rw [hx] at hy
      cases hy
      exact hpx
  refine ⟨key _ h.1 hb, fun he => ?_⟩
  obtain ⟨h3, h4⟩ := addE_zero he
  obtain ⟨h5, h6⟩ := h.2 h3
  exact ⟨by rw [addL, if_pos he, h5, encs_succ hx], key _ h6 h4⟩
theorem Took.all {l : List TAct} {i : Nat} {L : List UInt8} {e : Int} (h : Took l i L e) (hi : l.length ≤ i) (he : e = 0) : doneL L e = encs l := by
  rw [doneL, if_pos he, (h.2 he).1, List.take_of_length_le hi]

section
variable {L R X : List UInt8} {a : Nat}
theorem back_len (hd : L.drop a = X ++ R) (ha : a ≤ L.length) : a + X.length ≤ L.length := by
  have := congrArg List.length hd
  simp only [List.length_drop, List.length_append] at this
  omega
theorem back_bytes (hd : L.drop a = X ++ R) (ha : a ≤ L.length) : takeE L.length a 0 X.length = 0 ∧ takeL L a X.length 0 = X ∧ takeA a X.length 0 = ((a + X.length : Nat) : Int) := by
  have h1 := back_len hd ha
  have h2 : withinB L.length (a : Int) (X.length : Int) = true := K.within_iff.2 (by omega)
  refine ⟨?_, ?_, ?_⟩
  · simp only [takeE, if_true, h2]
    rw [if_neg (by omega)]
  · simp only [takeL, if_true, Int.toNat_natCast, hd, List.take_left]
  · simp [takeA]
theorem back_num {n : Int} {v : Nat} (hd : L.drop a = enc n.toNat v ++ R) (ha : a ≤ L.length) (he : putE v n = 0) : takeE L.length a 0 (numW n) = 0 ∧ le (takeL L a (numW n) 0) = v ∧ takeA a (numW n) 0 = ((a + n.toNat : Nat) : Int) := by
  have hw : wideB n = true := by
    cases h : wideB n with
    | true => rfl
    | false => simp [putE, h] at he
  have hf : fitsB v n.toNat = true := by
    cases h : fitsB v n.toNat with
    | true => rfl
    | false => simp [putE, hw, h] at he
  have hn := wide_of hw
  have hnw : numW n = ((enc n.toNat v).length : Int) := by
    rw [numW, if_pos hw, enc_length]
    omega
  obtain ⟨h1, h2, h3⟩ := back_bytes hd ha
  rw [hnw]
  refine ⟨h1, ?_, ?_⟩
  · rw [h2, le_enc, Nat.mod_eq_of_lt (by simpa [fitsB] using hf)]
  · rw [h3, enc_length]
theorem back_text (hd : L.drop a = (enc 2 X.length ++ X) ++ R) (ha : a ≤ L.length) (hX : X.length ≤ 1000) : textE L a 0 1000 = 0 ∧ textL L a 0 = X ∧ textA L a 0 = ((a + (2 + X.length) : Nat) : Int) := by
  have h0 := back_len hd ha
  rw [List.length_append, enc_length] at h0
  have hd1 : L.drop a = enc 2 X.length ++ (X ++ R) := by rw [hd, List.append_assoc]
  have hn : le ((L.drop ((a : Int)).toNat).take 2) = X.length := by
    rw [Int.toNat_natCast, hd1, List.take_left' (enc_length _ _), le_enc, Nat.mod_eq_of_lt (by omega)]
  have hd2 : L.drop (a + 2) = X ++ R := by
    rw [← List.drop_drop, hd1, List.drop_left' (enc_length _ _)]
  have h2 : withinB L.length (a : Int) 2 = true := K.within_iff.2 (by omega)
  have h3 : withinB L.length ((a : Int) + 2) (X.length : Int) = true := K.within_iff.2 (by omega)
  refine ⟨?_, ?_, ?_⟩
  · simp only [textE, if_true, h2, hn, h3]
    rw [if_neg (by omega), if_neg (by omega)]
  · simp only [textL, if_true, hn]
    rw [Int.toNat_natCast, hd2, List.take_left]
  · simp only [textA, if_true, hn]
    omega
end
end Go.Proofs.Ytgkiegplmohgkaa.F
