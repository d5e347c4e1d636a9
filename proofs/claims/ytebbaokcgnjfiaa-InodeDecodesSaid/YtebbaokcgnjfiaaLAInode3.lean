/- Inodes in plain words: their bytes. -/
import Derived.Test.YtebbaokcgnjfiaaLAInode2
set_option linter.unusedVariables false
set_option linter.unusedSimpArgs false
namespace Go.Proofs.Ytebbaokcgnjfiaa.F
open Go Go.RowKit Go.Proofs.Ytebbaokcgnjfiaa.K

theorem NumI {b : List UInt8} {most : Int} {x : Int} {w : Nat} (h : w = 1 ∨ w = 2 ∨ w = 4 ∨ w = 8) (hx : 0 ≤ x) (hx2 : x < ((256 ^ w : Nat) : Int)) (hx3 : x < 18446744073709551616) (hb : (b.length : Int) + w ≤ most) (hm : most ≤ 100000000000) :
    field_Writer_Num ⟨b, most, 0⟩ (UInt64.ofInt x) (w : Int) = some ⟨b ++ enc w x.toNat, most, 0⟩ := by
  have e := ofInt_nat (x := x) ⟨hx, hx3⟩
  rw [Num_ok h (by rw [e]; omega) hb hm, e]
def v4 (x : Int) : Nat := if x = -1 then 4294967295 else x.toNat
theorem NumN {b : List UInt8} {most : Int} {x : Int} (hx : -1 ≤ x ∧ x ≤ 4294967295) (hb : (b.length : Int) + 4 ≤ most) (hm : most ≤ 100000000000) :
    field_Writer_Num ⟨b, most, 0⟩ (inode_none x) 4 = some ⟨b ++ enc 4 (v4 x), most, 0⟩ := by
  have e := none_nat hx
  have h4 : (inode_none x).toNat = v4 x := e
  have : v4 x < 256 ^ 4 := by unfold v4; split <;> omega
  have h := Num_ok (b := b) (most := most) (n := inode_none x) (w := 4) (by decide) (by rw [h4]; exact this) hb hm
  rw [h4] at h
  exact h
theorem TextI {b x : List UInt8} {most : Int} (hx : x.length ≤ 4096) (hb : (b.length : Int) + 2 + x.length ≤ most) (hm : most ≤ 100000000000) :
    field_Writer_Text ⟨b, most, 0⟩ x = some ⟨b ++ enc 2 x.length ++ x, most, 0⟩ := by
  unfold field_Writer_Text
  rw [decide_eq_false (by omega), cond_false, if_neg (by omega)]
  have hr : field_Writer_right ⟨b, most, 0⟩ 0 ((x.length : Int) + 2) = some (true, ⟨b, most, 0⟩) := by
    unfold field_Writer_right
    simp only [bne_self_eq_false, cond_false, beq_self_eq_true, cond_true]
    rw [wI (by omega), decide_eq_false (by omega)]
    rfl
  rw [hr]
  simp only [Option.bind_some, cond_true]
  have e := ofInt_nat (x := (x.length : Int)) (by omega)
  rw [show (2 : Int) = ((2 : Nat) : Int) from rfl, store_eq _ 2 (by decide) b (by omega), e]
  simp only [Option.bind_some, Int.toNat_natCast]
  rw [app_ok (by simp only [List.length_append, enc_length]; omega)]
  rfl
theorem refstore_loop (n : UInt64) (w : Nat) (hw : w ≤ 8) : ∀ k i (a : UInt64), w - i = k → i ≤ w → a.toNat = n.toNat / 256 ^ i → loopO (fun s => ref01_Store_l1 (w : Int) s.1 s.2.1 s.2.2) (a, enc i n.toNat, (i : Int)) = some (enc w n.toNat) := by
  intro k
  induction k with
  | zero =>
    intro i a h1 h2 h3
    have : i = w := by omega
    subst this
    refine loop_end ?_
    show ref01_Store_l1 (i : Int) a (enc i n.toNat) (i : Int) = _
    unfold ref01_Store_l1
    rw [decide_eq_false (by omega)]
    rfl
  | succ k ih =>
    intro i a h1 h2 h3
    have h4 : (a / 256).toNat = n.toNat / 256 ^ (i + 1) := by
      rw [UInt64.toNat_div, h3]
      show n.toNat / 256 ^ i / 256 = _
      rw [Nat.div_div_eq_div_mul, Nat.pow_succ]
    have := ih (i + 1) (a / 256) (by omega) (by omega) h4
    rw [show ((i + 1 : Nat) : Int) = (i : Int) + 1 by omega] at this
    refine (loop_next ?_).trans this
    show ref01_Store_l1 (w : Int) a (enc i n.toNat) (i : Int) = _
    unfold ref01_Store_l1
    rw [decide_eq_true (by omega), wI (by omega)]
    have hb : (a % 256).toUInt8 = UInt8.ofNat (n.toNat / 256 ^ i) := by
      apply UInt8.toNat_inj.1
      rw [UInt64.toNat_toUInt8, UInt64.toNat_mod, h3, UInt8.toNat_ofNat']
      show n.toNat / 256 ^ i % 256 % 2 ^ 8 = _
      omega
    rw [hb]
    simp only [cond_true, Option.bind_some]
    rw [app_ok (by simp only [enc_length, List.length_singleton]; omega), ← enc_snoc]
    rfl
theorem refstore (n : UInt64) (w : Nat) (hw : w ≤ 8) : ref01_Store n (w : Int) = some (enc w n.toNat) := by
  unfold ref01_Store
  have := refstore_loop n w hw w 0 n (by omega) (by omega) (by simp)
  rw [show (n, ([] : List UInt8), (0 : Int)) = (n, enc 0 n.toNat, ((0 : Nat) : Int)) from rfl, this]
  rfl
theorem refstoreI {x : Int} (w : Nat) (hw : w ≤ 8) (hx : 0 ≤ x ∧ x < 18446744073709551616) : ref01_Store (UInt64.ofInt x) (w : Int) = some (enc w x.toNat) := by
  rw [refstore _ w hw, ofInt_nat hx]
theorem fourI {x : Int} (hx : -1 ≤ x ∧ x ≤ 4294967295) : ref15_four x = some (enc 4 (v4 x)) := by
  unfold ref15_four v4
  by_cases h : x = -1
  · subst h; rfl
  · rw [show (x == -1) = false from beq_eq_false_iff_ne.2 h, cond_false, show (4 : Int) = ((4 : Nat) : Int) from rfl, refstoreI 4 (by decide) (by omega), if_neg h]
    rfl
theorem v4_nat {x : Int} (hx : 0 ≤ x) : v4 x = x.toNat := if_neg (by omega)
def wordsB (l : List Int) : List UInt8 := l.flatMap fun x => enc 4 x.toNat
theorem wordsB_len : ∀ l : List Int, (wordsB l).length = 4 * l.length
  | [] => rfl
  | x :: l => by
    have := wordsB_len l
    unfold wordsB at this ⊢
    rw [List.flatMap_cons, List.length_append, this, enc_length, List.length_cons]
    omega
def headB (n : TApiInode) : List UInt8 := enc 2 n.Kind.toNat ++ enc 2 n.Mode.toNat ++ enc 2 n.Uid.toNat ++ enc 2 n.Gid.toNat ++ enc 4 n.Time.toNat ++ enc 4 n.Links.toNat ++ enc 4 (v4 n.Attrs)
def fileB (n : TApiInode) : List UInt8 := enc 8 n.Size.toNat ++ enc 4 n.Start.toNat ++ enc 4 (v4 n.Frag) ++ enc 4 n.Off.toNat ++ enc 4 n.Tail.toNat ++ enc 4 n.Words.length
def restB (n : TApiInode) : List UInt8 :=
  if n.Kind = 1 then fileB n ++ wordsB n.Words
  else if n.Kind = 2 then enc 4 n.Dir.toNat ++ enc 4 n.Bytes.toNat ++ enc 4 n.Parent.toNat
  else if n.Kind = 3 then enc 2 n.Target.length ++ n.Target
  else enc 4 n.Dev.toNat
def bytesI (n : TApiInode) : List UInt8 := headB n ++ restB n
theorem headB_len (n : TApiInode) : (headB n).length = 20 := by simp [headB, enc_length]
theorem okW_get {l : List Int} (h : okW l = true) {i : Nat} {x : Int} (hx : l[i]? = some x) : 0 ≤ x ∧ x ≤ 4294967295 := by
  have := List.all_eq_true.1 h x (List.mem_of_getElem? hx)
  simpa using this
theorem enc_words (n : TApiInode) (b : List UInt8) (hw : okW n.Words = true) (hl : n.Words.length ≤ 65536) (hb : b.length ≤ 100) :
    ∀ k t, n.Words.length - t = k → t ≤ n.Words.length → loopO (fun s => inode_Encode_l1 n s.1 s.2.1 s.2.2.1 s.2.2.2) (b ++ wordsB (n.Words.take t), (8388608 : Int), (0 : Int), t) = some (b ++ wordsB n.Words, 8388608, 0) := by
  intro k
  induction k with
  | zero =>
    intro t h1 h2
    have : t = n.Words.length := by omega
    subst this
    refine loop_end ?_
    show inode_Encode_l1 n (b ++ wordsB (n.Words.take n.Words.length)) 8388608 0 n.Words.length = _
    unfold inode_Encode_l1
    rw [decide_eq_false (by omega), List.take_length]
    rfl
  | succ k ih =>
    intro t h1 h2
    have hlt : t < n.Words.length := by omega
    have hx := List.getElem?_eq_getElem hlt
    have hr := okW_get hw hx
    refine (loop_next ?_).trans (ih (t + 1) (by omega) (by omega))
    show inode_Encode_l1 n (b ++ wordsB (n.Words.take t)) 8388608 0 t = _
    unfold inode_Encode_l1
    rw [decide_eq_true (by omega), hx]
    simp only [cond_true, Option.bind_some]
    have hlen : (b ++ wordsB (n.Words.take t)).length = b.length + 4 * t := by rw [List.length_append, wordsB_len, List.length_take, Nat.min_eq_left h2]
    rw [show (4 : Int) = ((4 : Nat) : Int) from rfl, NumI (w := 4) (by decide) hr.1 (by omega) (by omega) (by rw [hlen]; omega) (by decide)]
    simp only [Option.bind_some]
    have : wordsB (n.Words.take (t + 1)) = wordsB (n.Words.take t) ++ enc 4 (n.Words[t]).toNat := by
      unfold wordsB
      rw [List.take_add_one, hx, Option.toList_some, List.flatMap_append]
      simp
    rw [this, List.append_assoc]
theorem ref_words_bytes (n : TApiInode) (b : List UInt8) (hw : okW n.Words = true) (hl : n.Words.length ≤ 65536) (hb : b.length ≤ 100) :
    ∀ k t, n.Words.length - t = k → t ≤ n.Words.length → loopO (fun s => ref15_Bytes_l1 n s.1 s.2) (b ++ wordsB (n.Words.take t), t) = some (b ++ wordsB n.Words) := by
  intro k
  induction k with
  | zero =>
    intro t h1 h2
    have : t = n.Words.length := by omega
    subst this
    refine loop_end ?_
    show ref15_Bytes_l1 n (b ++ wordsB (n.Words.take n.Words.length)) n.Words.length = _
    unfold ref15_Bytes_l1
    rw [decide_eq_false (by omega), List.take_length]
    rfl
  | succ k ih =>
    intro t h1 h2
    have hlt : t < n.Words.length := by omega
    have hx := List.getElem?_eq_getElem hlt
    have hr := okW_get hw hx
    refine (loop_next ?_).trans (ih (t + 1) (by omega) (by omega))
    show ref15_Bytes_l1 n (b ++ wordsB (n.Words.take t)) t = _
    unfold ref15_Bytes_l1
    rw [decide_eq_true (by omega), hx]
    simp only [cond_true, Option.bind_some]
    have hlen : (b ++ wordsB (n.Words.take t)).length = b.length + 4 * t := by rw [List.length_append, wordsB_len, List.length_take, Nat.min_eq_left h2]
    rw [fourI (by omega)]
    simp only [Option.bind_some]
    rw [app_ok (by rw [hlen, enc_length]; omega), v4_nat hr.1]
    simp only [Option.bind_some]
    have : wordsB (n.Words.take (t + 1)) = wordsB (n.Words.take t) ++ enc 4 (n.Words[t]).toNat := by
      unfold wordsB
      rw [List.take_add_one, hx, Option.toList_some, List.flatMap_append]
      simp
    rw [this, List.append_assoc]
theorem Encode_ok (n : TApiInode) (hk : 1 ≤ n.Kind ∧ n.Kind ≤ 5) (hg : Good n) : inode_Encode n = some (bytesI n, 0) := by
  unfold inode_Encode
  rw [inode_Check_eq, chk_of_good hk hg]
  simp only [Option.bind_some, bne_self_eq_false, cond_false]
  obtain ⟨⟨hm, ht, hu, hgi, hl, ha⟩, hF, _, hD, _, hT, _, hV, _⟩ := hg
  have hN : field_NewWriter 8388608 = ⟨[], 8388608, 0⟩ := rfl
  rw [hN]
  have s2 : (2 : Int) = ((2 : Nat) : Int) := rfl
  have s4 : (4 : Int) = ((4 : Nat) : Int) := rfl
  have s8 : (8 : Int) = ((8 : Nat) : Int) := rfl
  rw [show field_Writer_Num ⟨[], 8388608, 0⟩ (UInt64.ofInt n.Kind) 2 = _ from NumI (w := 2) (by decide) (by omega) (by omega) (by omega) (by decide) (by decide)]
  simp only [Option.bind_some]
  rw [show field_Writer_Num ⟨_, 8388608, 0⟩ (UInt64.ofInt n.Mode) 2 = _ from NumI (w := 2) (by decide) (by omega) (by omega) (by omega) (by simp [enc_length]) (by decide)]
  simp only [Option.bind_some]
  rw [show field_Writer_Num ⟨_, 8388608, 0⟩ (UInt64.ofInt n.Uid) 2 = _ from NumI (w := 2) (by decide) (by omega) (by omega) (by omega) (by simp [enc_length]) (by decide)]
  simp only [Option.bind_some]
  rw [show field_Writer_Num ⟨_, 8388608, 0⟩ (UInt64.ofInt n.Gid) 2 = _ from NumI (w := 2) (by decide) (by omega) (by omega) (by omega) (by simp [enc_length]) (by decide)]
  simp only [Option.bind_some]
  rw [show field_Writer_Num ⟨_, 8388608, 0⟩ (UInt64.ofInt n.Time) 4 = _ from NumI (w := 4) (by decide) (by omega) (by omega) (by omega) (by simp [enc_length]) (by decide)]
  simp only [Option.bind_some]
  rw [show field_Writer_Num ⟨_, 8388608, 0⟩ (UInt64.ofInt n.Links) 4 = _ from NumI (w := 4) (by decide) (by omega) (by omega) (by omega) (by simp [enc_length]) (by decide)]
  simp only [Option.bind_some]
  rw [NumN (by omega) (by simp [enc_length]) (by decide)]
  simp only [Option.bind_some, List.nil_append]
  have hhead : enc 2 n.Kind.toNat ++ enc 2 n.Mode.toNat ++ enc 2 n.Uid.toNat ++ enc 2 n.Gid.toNat ++ enc 4 n.Time.toNat ++ enc 4 n.Links.toNat ++ enc 4 (v4 n.Attrs) = headB n := rfl
  rw [hhead]
  have hhl := headB_len n
  unfold bytesI restB
  by_cases h1 : n.Kind = 1
  · obtain ⟨f1, f2, f3, f4, f5, f6, f7, f8, f9⟩ := hF h1
    rw [show (n.Kind == 1) = true from beq_iff_eq.2 h1, cond_true, if_pos h1]
    rw [show field_Writer_Num ⟨_, 8388608, 0⟩ (UInt64.ofInt n.Size) 8 = _ from NumI (w := 8) (by decide) (by omega) (by omega) (by omega) (by simp [enc_length, hhl]) (by decide)]
    simp only [Option.bind_some]
    rw [show field_Writer_Num ⟨_, 8388608, 0⟩ (UInt64.ofInt n.Start) 4 = _ from NumI (w := 4) (by decide) (by omega) (by omega) (by omega) (by simp [enc_length, hhl]) (by decide)]
    simp only [Option.bind_some]
    rw [NumN (by omega) (by simp [enc_length, hhl]) (by decide)]
    simp only [Option.bind_some]
    rw [show field_Writer_Num ⟨_, 8388608, 0⟩ (UInt64.ofInt n.Off) 4 = _ from NumI (w := 4) (by decide) (by omega) (by omega) (by omega) (by simp [enc_length, hhl]) (by decide)]
    simp only [Option.bind_some]
    rw [show field_Writer_Num ⟨_, 8388608, 0⟩ (UInt64.ofInt n.Tail) 4 = _ from NumI (w := 4) (by decide) (by omega) (by omega) (by omega) (by simp [enc_length, hhl]) (by decide)]
    simp only [Option.bind_some]
    rw [show field_Writer_Num ⟨_, 8388608, 0⟩ (UInt64.ofInt (n.Words.length : Int)) 4 = _ from NumI (w := 4) (by decide) (by omega) (by omega) (by omega) (by simp [enc_length, hhl]) (by decide)]
    simp only [Option.bind_some, Int.toNat_natCast]
    have hf : headB n ++ enc 8 n.Size.toNat ++ enc 4 n.Start.toNat ++ enc 4 (v4 n.Frag) ++ enc 4 n.Off.toNat ++ enc 4 n.Tail.toNat ++ enc 4 n.Words.length = headB n ++ fileB n := by simp [fileB]
    rw [hf]
    have hloop := enc_words n (headB n ++ fileB n) f9 f3 (by simp [fileB, enc_length, hhl]) n.Words.length 0 (by omega) (by omega)
    rw [show wordsB (n.Words.take 0) = [] from rfl, List.append_nil] at hloop
    rw [hloop]
    simp only [Option.bind_some]
    rw [Done_ok (by simp [fileB, enc_length, hhl, wordsB_len]; omega)]
    simp
  · rw [show (n.Kind == 1) = false from beq_eq_false_iff_ne.2 h1, cond_false, if_neg h1]
    by_cases h2 : n.Kind = 2
    · obtain ⟨f1, f2, f3⟩ := hD h2
      rw [show (n.Kind == 2) = true from beq_iff_eq.2 h2, cond_true, if_pos h2]
      rw [show field_Writer_Num ⟨_, 8388608, 0⟩ (UInt64.ofInt n.Dir) 4 = _ from NumI (w := 4) (by decide) (by omega) (by omega) (by omega) (by simp [enc_length, hhl]) (by decide)]
      simp only [Option.bind_some]
      rw [show field_Writer_Num ⟨_, 8388608, 0⟩ (UInt64.ofInt n.Bytes) 4 = _ from NumI (w := 4) (by decide) (by omega) (by omega) (by omega) (by simp [enc_length, hhl]) (by decide)]
      simp only [Option.bind_some]
      rw [show field_Writer_Num ⟨_, 8388608, 0⟩ (UInt64.ofInt n.Parent) 4 = _ from NumI (w := 4) (by decide) (by omega) (by omega) (by omega) (by simp [enc_length, hhl]) (by decide)]
      simp only [Option.bind_some]
      rw [Done_ok (by simp [enc_length, hhl])]
      simp
    · rw [show (n.Kind == 2) = false from beq_eq_false_iff_ne.2 h2, cond_false, if_neg h2]
      by_cases h3 : n.Kind = 3
      · obtain ⟨⟨f1, f2⟩, f3⟩ := hT h3
        rw [show (n.Kind == 3) = true from beq_iff_eq.2 h3, cond_true, if_pos h3, TextI f2 (by rw [hhl]; omega) (by decide)]
        simp only [Option.bind_some]
        rw [Done_ok (by simp [enc_length, hhl]; omega)]
        simp
      · have f1 := hV (by omega)
        rw [show (n.Kind == 3) = false from beq_eq_false_iff_ne.2 h3, cond_false, if_neg h3]
        rw [show field_Writer_Num ⟨_, 8388608, 0⟩ (UInt64.ofInt n.Dev) 4 = _ from NumI (w := 4) (by decide) (by omega) (by omega) (by omega) (by simp [enc_length, hhl]) (by decide)]
        simp only [Option.bind_some]
        rw [Done_ok (by simp [enc_length, hhl])]
        simp
theorem Bytes_ok (n : TApiInode) (hk : 1 ≤ n.Kind ∧ n.Kind ≤ 5) (hg : Good n) : ref15_Bytes n = some (bytesI n) := by
  unfold ref15_Bytes
  obtain ⟨⟨hm, ht, hu, hgi, hl, ha⟩, hF, _, hD, _, hT, _, hV, _⟩ := hg
  have h2k : [UInt8.ofInt n.Kind, (0 : UInt8)] = enc 2 n.Kind.toNat := by
    have : n.Kind = 1 ∨ n.Kind = 2 ∨ n.Kind = 3 ∨ n.Kind = 4 ∨ n.Kind = 5 := by omega
    rcases this with h | h | h | h | h <;> rw [h] <;> decide
  rw [h2k, show ref01_Store (UInt64.ofInt n.Mode) 2 = _ from refstoreI 2 (by decide) (by omega), show ref01_Store (UInt64.ofInt n.Uid) 2 = _ from refstoreI 2 (by decide) (by omega), show ref01_Store (UInt64.ofInt n.Gid) 2 = _ from refstoreI 2 (by decide) (by omega), fourI (by omega), fourI (x := n.Links) (by omega), fourI (x := n.Attrs) (by omega), v4_nat ht.1, v4_nat (show 0 ≤ n.Links by omega)]
  have a2 : ∀ (l : List UInt8) (w k : Nat), l.length ≤ 100 → w ≤ 8 → app l (enc w k) = some (l ++ enc w k) := fun l w k h hw => app_ok (by rw [enc_length]; omega)
  simp only [Option.bind_some]
  rw [a2 _ 2 _ (by simp [enc_length]) (by decide)]
  simp only [Option.bind_some]
  rw [a2 _ 2 _ (by simp [enc_length]) (by decide)]
  simp only [Option.bind_some]
  rw [a2 _ 2 _ (by simp [enc_length]) (by decide)]
  simp only [Option.bind_some]
  rw [a2 _ 4 _ (by simp [enc_length]) (by decide)]
  simp only [Option.bind_some]
  rw [a2 _ 4 _ (by simp [enc_length]) (by decide)]
  simp only [Option.bind_some]
  rw [a2 _ 4 _ (by simp [enc_length]) (by decide)]
  simp only [Option.bind_some]
  have hhead : enc 2 n.Kind.toNat ++ enc 2 n.Mode.toNat ++ enc 2 n.Uid.toNat ++ enc 2 n.Gid.toNat ++ enc 4 n.Time.toNat ++ enc 4 n.Links.toNat ++ enc 4 (v4 n.Attrs) = headB n := rfl
  rw [hhead]
  have hhl := headB_len n
  unfold bytesI restB
  by_cases h1 : n.Kind = 1
  · obtain ⟨f1, f2, f3, f4, f5, f6, f7, f8, f9⟩ := hF h1
    rw [show (n.Kind == 1) = true from beq_iff_eq.2 h1, cond_true, if_pos h1]
    rw [show ref01_Store (UInt64.ofInt n.Size) 8 = _ from refstoreI 8 (by decide) (by omega), fourI (x := n.Start) (by omega), fourI (x := n.Frag) (by omega), fourI (x := n.Off) (by omega), fourI (x := n.Tail) (by omega), fourI (x := (n.Words.length : Int)) (by omega), v4_nat f2.1, v4_nat f5.1, v4_nat f6.1, v4_nat (show (0 : Int) ≤ n.Words.length by omega)]
    simp only [Option.bind_some, Int.toNat_natCast]
    rw [a2 _ 8 _ (by simp [enc_length, hhl]) (by decide)]
    simp only [Option.bind_some]
    rw [a2 _ 4 _ (by simp [enc_length, hhl]) (by decide)]
    simp only [Option.bind_some]
    rw [a2 _ 4 _ (by simp [enc_length, hhl]) (by decide)]
    simp only [Option.bind_some]
    rw [a2 _ 4 _ (by simp [enc_length, hhl]) (by decide)]
    simp only [Option.bind_some]
    rw [a2 _ 4 _ (by simp [enc_length, hhl]) (by decide)]
    simp only [Option.bind_some]
    rw [a2 _ 4 _ (by simp [enc_length, hhl]) (by decide)]
    simp only [Option.bind_some]
    have hf : headB n ++ enc 8 n.Size.toNat ++ enc 4 n.Start.toNat ++ enc 4 (v4 n.Frag) ++ enc 4 n.Off.toNat ++ enc 4 n.Tail.toNat ++ enc 4 n.Words.length = headB n ++ fileB n := by simp [fileB]
    rw [hf]
    have hloop := ref_words_bytes n (headB n ++ fileB n) f9 f3 (by simp [fileB, enc_length, hhl]) n.Words.length 0 (by omega) (by omega)
    rw [show wordsB (n.Words.take 0) = [] from rfl, List.append_nil] at hloop
    rw [hloop]
    simp
  · rw [show (n.Kind == 1) = false from beq_eq_false_iff_ne.2 h1, cond_false, if_neg h1]
    by_cases h2 : n.Kind = 2
    · obtain ⟨f1, f2, f3⟩ := hD h2
      rw [show (n.Kind == 2) = true from beq_iff_eq.2 h2, cond_true, if_pos h2]
      rw [fourI (x := n.Dir) (by omega), fourI (x := n.Bytes) (by omega), fourI (x := n.Parent) (by omega), v4_nat f1.1, v4_nat f2.1, v4_nat f3.1]
      simp only [Option.bind_some]
      rw [a2 _ 4 _ (by simp [enc_length, hhl]) (by decide)]
      simp only [Option.bind_some]
      rw [a2 _ 4 _ (by simp [enc_length, hhl]) (by decide)]
      simp only [Option.bind_some]
      rw [a2 _ 4 _ (by simp [enc_length, hhl]) (by decide)]
      simp
    · rw [show (n.Kind == 2) = false from beq_eq_false_iff_ne.2 h2, cond_false, if_neg h2]
      by_cases h3 : n.Kind = 3
      · obtain ⟨⟨f1, f2⟩, f3⟩ := hT h3
        rw [show (n.Kind == 3) = true from beq_iff_eq.2 h3, cond_true, if_pos h3, show ref01_Store (UInt64.ofInt (n.Target.length : Int)) 2 = _ from refstoreI 2 (by decide) (by omega)]
        simp only [Option.bind_some, Int.toNat_natCast]
        rw [a2 _ 2 _ (by simp [enc_length, hhl]) (by decide)]
        simp only [Option.bind_some]
        rw [app_ok (by simp [enc_length, hhl]; omega)]
        simp
      · have f1 := hV (by omega)
        rw [show (n.Kind == 3) = false from beq_eq_false_iff_ne.2 h3, cond_false, if_neg h3, fourI (x := n.Dev) (by omega), v4_nat f1.1]
        simp only [Option.bind_some]
        rw [a2 _ 4 _ (by simp [enc_length, hhl]) (by decide)]
        simp
theorem Encode_no (n : TApiInode) (h : chkI n ≠ 0) : inode_Encode n = some ([], chkI n) := by
  unfold inode_Encode
  rw [inode_Check_eq]
  simp only [Option.bind_some]
  rw [show (chkI n != 0) = true from bne_iff_ne.2 h]
  rfl
theorem Size_no (n : TApiInode) (h : chkI n ≠ 0) : inode_Size n = some 0 := by
  unfold inode_Size
  rw [inode_Check_eq]
  simp only [Option.bind_some]
  rw [show (chkI n != 0) = true from bne_iff_ne.2 h]
  rfl
theorem Size_ok (n : TApiInode) (hk : 1 ≤ n.Kind ∧ n.Kind ≤ 5) (hg : Good n) : inode_Size n = some ((bytesI n).length : Int) := by
  unfold inode_Size
  rw [inode_Check_eq, chk_of_good hk hg]
  simp only [Option.bind_some, bne_self_eq_false, cond_false]
  have hhl := headB_len n
  unfold bytesI restB
  rw [List.length_append, hhl]
  by_cases h1 : n.Kind = 1
  · obtain ⟨f1, f2, f3, _⟩ := hg.2.1 h1
    rw [show (n.Kind == 1) = true from beq_iff_eq.2 h1, cond_true, if_pos h1, show IntKind.i64.wrap (4 * (n.Words.length : Int)) = 4 * (n.Words.length : Int) from wI (by omega), wI (by omega), List.length_append, wordsB_len]
    simp [fileB, enc_length]
    omega
  · rw [show (n.Kind == 1) = false from beq_eq_false_iff_ne.2 h1, cond_false, if_neg h1]
    by_cases h2 : n.Kind = 2
    · rw [show (n.Kind == 2) = true from beq_iff_eq.2 h2, cond_true, if_pos h2]
      simp [enc_length]
    · rw [show (n.Kind == 2) = false from beq_eq_false_iff_ne.2 h2, cond_false, if_neg h2]
      by_cases h3 : n.Kind = 3
      · obtain ⟨⟨f1, f2⟩, f3⟩ := hg.2.2.2.2.2.1 h3
        rw [show (n.Kind == 3) = true from beq_iff_eq.2 h3, cond_true, if_pos h3, wI (by omega)]
        simp [enc_length]
        omega
      · rw [show (n.Kind == 3) = false from beq_eq_false_iff_ne.2 h3, cond_false, if_neg h3]
        simp [enc_length]
theorem InodeEncodes_pure (n : TApiInode) (hn : rApiInode.wf n) : law15_InodeEncodes n = some true := by
  unfold law15_InodeEncodes
  rw [live15, inode_Check_eq, ref15_Check_eq]
  by_cases hc : chkI n = 0
  · obtain ⟨hk, hg⟩ := good_of_chk hc
    rw [Encode_ok n hk hg, Bytes_ok n hk hg, Size_ok n hk hg, hc]
    simp only [Option.bind_some, law15_num, bne_self_eq_false, cond_false, beq_self_eq_true, cond_true]
    cases decide ((n.Words.length : Int) > 1000) <;> cases decide ((n.Words.length : Int) ≤ 65536) <;> cases decide ((n.Target.length : Int) > 5000) <;> rfl
  · rw [Encode_no n hc, Size_no n hc]
    simp only [Option.bind_some, law15_num, bne_self_eq_false, cond_false]
    rw [show (chkI n != 0) = true from bne_iff_ne.2 hc]
    simp only [cond_true, List.length_nil]
    cases decide ((n.Words.length : Int) > 1000) <;> cases decide ((n.Words.length : Int) ≤ 65536) <;> cases decide ((n.Target.length : Int) > 5000) <;> rfl
end Go.Proofs.Ytebbaokcgnjfiaa.F
