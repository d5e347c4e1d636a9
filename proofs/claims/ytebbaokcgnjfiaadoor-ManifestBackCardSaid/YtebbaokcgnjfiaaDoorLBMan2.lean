import Derived.Test.YtebbaokcgnjfiaaDoorLBMan
set_option linter.unusedVariables false
set_option linter.unusedSimpArgs false
namespace Go.Proofs.YtebbaokcgnjfiaaDoor.F
open Go Go.RowKit Go.Proofs.YtebbaokcgnjfiaaDoor.K
def letterK (k : Int) : UInt8 := ([102,100,108,98,99,104] : List UInt8).getD (k - 1).toNat 0
noncomputable def numsS (x : TApiEntry) : List UInt8 := if x.Kind = 6 then [] else 32 :: (dgs 8 x.Mode ++ 32 :: (dgs 10 x.Uid ++ 32 :: (dgs 10 x.Gid ++ 32 :: dgs 10 x.Time)))
noncomputable def sizeS (x : TApiEntry) : List UInt8 := if x.Kind = 1 then 32 :: dgs 10 x.Size else if x.Kind = 4 ∨ x.Kind = 5 then 32 :: dgs 10 x.Dev else []
def linkS (x : TApiEntry) : List UInt8 := if x.Kind = 3 ∨ x.Kind = 6 then 32 :: Qt x.Target else []
noncomputable def lineS (x : TApiEntry) : List UInt8 := letterK x.Kind :: (numsS x ++ (sizeS x ++ (32 :: (Qt x.Path ++ (linkS x ++ [10])))))
theorem numsS_len {x : TApiEntry} (h : RightP x) : (numsS x).length ≤ 200 := by
 unfold numsS
 split
 ·simp
 ·rename_i h6
  obtain ⟨a1,a2,a3,a4⟩ := h.head h6
  have := dgs_le (.inl rfl) a1
  have := dgs_le (.inr rfl) a2
  have := dgs_le (.inr rfl) a3
  have := dgs_le (.inr rfl) a4
  simp only [List.length_append,List.length_cons]
  omega
theorem sizeS_len {x : TApiEntry} (h : RightP x) : (sizeS x).length ≤ 50 := by
 unfold sizeS
 split
 ·have := dgs_le (.inr rfl) (h.size (by assumption)); simp only [List.length_cons]; omega
 ·split
  ·have := dgs_le (.inr rfl) (h.dev (by assumption)); simp only [List.length_cons]; omega
  ·simp
theorem letter_ok {k : Int} (h : 1 ≤ k ∧ k ≤ 6) : idx ([102,100,108,98,99,104] : List UInt8) (IntKind.i64.wrap (k - 1)) = some (letterK k) ∧ idx ([63,102,100,108,98,99,104] : List UInt8) k = some (letterK k) := by
 rcases (show k = 1 ∨ k = 2 ∨ k = 3 ∨ k = 4 ∨ k = 5 ∨ k = 6 by omega) with rfl | rfl | rfl | rfl | rfl | rfl <;> decide
theorem kb {k : Int} (n : Int) : (k == n) = decide (k = n) := by by_cases h : k = n <;> simp [h]
theorem line_ok (b : List UInt8) {x : TApiEntry} (h : RightP x) (hp : x.Path.length ≤ 1000000) (ht : x.Target.length ≤ 1000000) (hb : b.length ≤ 1000000000) : manifest_line b x = some (b ++ lineS x) := by
 have hA : ∀ c : UInt8,(cond (x.Kind != 6)
   (Option.bind (manifest_num (b ++ [c]) x.Mode 8) fun num =>
   Option.bind (manifest_num num x.Uid 10) fun num1 =>
   Option.bind (manifest_num num1 x.Gid 10) fun num2 =>
   Option.bind (manifest_num num2 x.Time 10) fun num3 =>
   some num3)
   (some (b ++ [c]))) = some (b ++ c :: numsS x) := by
  intro c
  unfold numsS
  by_cases h6 : x.Kind = 6
  ·rw [show (x.Kind != 6) = false from by simp [h6],if_pos h6]
   rfl
  ·obtain ⟨a1,a2,a3,a4⟩ := h.head h6
   have l1 := dgs_le (.inl rfl) a1
   have l2 := dgs_le (.inr rfl) a2
   have l3 := dgs_le (.inr rfl) a3
   have l4 := dgs_le (.inr rfl) a4
   rw [show (x.Kind != 6) = true from by simpa using h6,if_neg h6,cond_true,num8 _ a1 (by simp; omega),Option.bind_some,num10 _ a2 (by simp; omega),Option.bind_some,num10 _ a3 (by simp; omega),Option.bind_some,num10 _ a4 (by simp; omega),Option.bind_some]
   simp only [List.append_assoc,List.cons_append,List.nil_append]
 have hB : ∀ d : List UInt8,d.length ≤ 2000000000 → (cond (x.Kind == 1)
   (Option.bind (manifest_num d x.Size 10) fun num4 =>
   some num4)
   (cond (x.Kind == 4)
   (Option.bind (manifest_num d x.Dev 10) fun num5 =>
   some num5)
   (cond (x.Kind == 5)
   (Option.bind (manifest_num d x.Dev 10) fun num6 =>
   some num6)
   (some d)))) = some (d ++ sizeS x) := by
  intro d hd
  unfold sizeS
  rw [kb,kb,kb]
  by_cases k1 : x.Kind = 1
  ·rw [decide_eq_true k1,cond_true,if_pos k1,num10 _ (h.size k1) (by omega)]
   rfl
  ·rw [decide_eq_false k1,cond_false,if_neg k1]
   by_cases k4 : x.Kind = 4
   ·rw [decide_eq_true k4,cond_true,if_pos (.inl k4),num10 _ (h.dev (.inl k4)) (by omega)]
    rfl
   ·rw [decide_eq_false k4,cond_false]
    by_cases k5 : x.Kind = 5
    ·rw [decide_eq_true k5,cond_true,if_pos (.inr k5),num10 _ (h.dev (.inr k5)) (by omega)]
     rfl
    ·rw [decide_eq_false k5,cond_false,if_neg (by omega),List.append_nil]
 have n1 := numsS_len h
 have n2 := sizeS_len h
 have n3 := Qt_len x.Path
 have n4 := Qt_len x.Target
 unfold manifest_line
 rw [(letter_ok h.kind).1,Option.bind_some,app_ok (by simp; omega),Option.bind_some,hA,Option.bind_some,hB _ (by simp; omega),Option.bind_some,app_ok (by simp; omega),Option.bind_some,Quote_ok _ (by omega),Option.bind_some,app_ok (by simp; omega),Option.bind_some,kb,kb]
 unfold lineS linkS
 by_cases k3 : x.Kind = 3
 ·rw [decide_eq_true k3,cond_true,if_pos (.inl k3),app_ok (by simp; omega),Option.bind_some,Quote_ok _ (by omega),Option.bind_some,app_ok (by simp; omega),Option.bind_some,app_ok (by simp; omega)]
  simp only [List.append_assoc,List.cons_append,List.nil_append,Option.bind_some]
 ·rw [decide_eq_false k3,cond_false]
  by_cases k6 : x.Kind = 6
  ·rw [decide_eq_true k6,cond_true,if_pos (.inr k6),app_ok (by simp; omega),Option.bind_some,Quote_ok _ (by omega),Option.bind_some,app_ok (by simp; omega),Option.bind_some,app_ok (by simp; omega)]
   simp only [List.append_assoc,List.cons_append,List.nil_append,Option.bind_some]
  ·rw [decide_eq_false k6,cond_false,if_neg (by omega),app_ok (by simp; omega)]
   simp only [List.append_assoc,List.cons_append,List.nil_append,Option.bind_some]
def dataS : Nat → List UInt8 → List UInt8
 | 0,_ => []
 | n + 1,d => if d = [] then [] else 61 :: 32 :: ((d.take 32).flatMap h2x ++ 10 :: dataS n (d.drop 32))
def attrS (a : TApiAttr) : List UInt8 := 64 :: 32 :: (Qt a.Name ++ ((if a.Value = [] then [] else 32 :: a.Value.flatMap h2x) ++ [10]))
def restS (x : TApiEntry) : List UInt8 := (if x.Kind = 1 then dataS x.Data.length x.Data else []) ++ (if x.Kind = 6 then [] else x.Attrs.flatMap attrS)
theorem dataS_len : ∀ n d,(dataS n d).length ≤ 5 * d.length
 | 0,d => Nat.zero_le _
 | n + 1,d => by
  unfold dataS
  split
  ·simp
  ·rename_i hd
   have := dataS_len n (d.drop 32)
   have h0 : 0 < d.length := by cases d with
    | nil => exact absurd rfl hd
    | cons => simp
   simp only [List.length_cons,List.length_append,hex_len,List.length_take,List.length_drop] at this ⊢
   omega
theorem attrS_len {a : TApiAttr} (h : AttrSmall a) : (attrS a).length ≤ 11000 := by
 unfold attrS
 have := Qt_len a.Name
 have := h.name
 have := h.value
 split <;> simp only [List.length_cons,List.length_append,hex_len,List.length_nil] <;> omega
theorem data_loop {x : TApiEntry} (hk : x.Kind = 1) : ∀ n (b d : List UInt8),d.length ≤ n → b.length + 5 * d.length ≤ 10000000000 → loopO (fun s => manifest_rest_l1 x s.1 s.2) (b,d) = some (b ++ dataS n d) := by
 intro n
 induction n with
 | zero =>
  intro b d h1 h2
  refine loop_end ?_
  show manifest_rest_l1 x b d = _
  unfold manifest_rest_l1
  rw [show (x.Kind == 1) = true from by simp [hk],cond_true,decide_eq_false (by omega)]
  simp [dataS]
 | succ n ih =>
  intro b d h1 h2
  unfold dataS
  by_cases hd : d = []
  ·rw [if_pos hd]
   subst hd
   refine loop_end ?_
   show manifest_rest_l1 x b [] = _
   unfold manifest_rest_l1
   rw [show (x.Kind == 1) = true from by simp [hk],cond_true,decide_eq_false (by simp)]
   simp
  ·rw [if_neg hd]
   have h0 : 0 < d.length := by cases d with
    | nil => exact absurd rfl hd
    | cons => simp
   have hm : (if (d.length : Int) < 32 then (d.length : Int) else 32) = ((min d.length 32 : Nat) : Int) := by split <;> omega
   have ht : d.take (min d.length 32) = d.take 32 := by
    by_cases h : d.length ≤ 32
    ·rw [Nat.min_eq_left h,List.take_length,List.take_of_length_le h]
    ·rw [Nat.min_eq_right (by omega)]
   have hdr : d.drop (min d.length 32) = d.drop 32 := by
    by_cases h : d.length ≤ 32
    ·rw [Nat.min_eq_left h,List.drop_length,List.drop_eq_nil_of_le h]
    ·rw [Nat.min_eq_right (by omega)]
   have hl : (d.take 32).length ≤ 32 := by rw [List.length_take]; omega
   have hl2 : (d.drop 32).length = d.length - 32 := List.length_drop
   have hl3 : (d.take 32).length = min 32 d.length := List.length_take
   refine (loop_next (s' := (b ++ 61 :: 32 :: ((d.take 32).flatMap h2x ++ [10]),d.drop 32)) ?_).trans ?_
   ·show manifest_rest_l1 x b d = _
    unfold manifest_rest_l1
    rw [show (x.Kind == 1) = true from by simp [hk],cond_true,decide_eq_true (by omega),cond_true,app_ok (by simp; omega),Option.bind_some,hm,slc_ok (by omega),Option.bind_some,Int.toNat_natCast,ht,show (0 : Int).toNat = 0 from rfl,List.drop_zero,hex_ok _ _ (by simp only [List.length_append,List.length_cons,List.length_nil]; omega),Option.bind_some,app_ok (by simp only [List.length_append,List.length_cons,List.length_nil,hex_len]; omega),Option.bind_some,Option.bind_some,slc_ok (by omega),Option.bind_some,Int.toNat_natCast,Int.toNat_natCast,List.take_length,hdr]
    simp only [List.append_assoc,List.cons_append,List.nil_append]
   ·rw [ih _ _ (by omega) (by simp only [List.length_append,List.length_cons,List.length_nil,hex_len]; omega)]
    simp only [List.append_assoc,List.cons_append,List.nil_append]
theorem attrs_loop {x : TApiEntry} (hk : x.Kind ≠ 6) (hs : EntrySmall x) (b : List UInt8) (hb : b.length ≤ 1000000000) : loopO (fun s => manifest_rest_l2 x s.1 s.2) (b,0) = some (b ++ x.Attrs.flatMap attrS) := by
 have := loop_fold x.Attrs (fun s => manifest_rest_l2 x s.1 s.2) (fun b a => b ++ attrS a) id (fun b r => b.length + 11000 * r.length ≤ 2000000000 ∧ ∀ a ∈ r,AttrSmall a) ?_ ?_ x.Attrs.length 0 b (by omega) (by omega) ⟨by have := hs.attrs; simp; omega,by simpa using hs.each⟩
 ·rw [this,List.drop_zero,fold_flat]
  rfl
 ·intro b t a ha ⟨hI,hA⟩
  have hlt := (List.getElem?_eq_some_iff.1 ha).1
  have e : a = x.Attrs[t] := (List.getElem?_eq_some_iff.1 ha).2.symm
  rw [drop_len_succ x.Attrs t hlt] at hI
  rw [List.drop_eq_getElem_cons hlt,← e] at hA
  have hsm := hA a (by simp)
  have hq := attrS_len hsm
  have hn := hsm.name
  have hv := hsm.value
  have hql := Qt_len a.Name
  refine ⟨?_,by rw [List.length_append]; omega,fun y hy => hA y (by simp [hy])⟩
  unfold manifest_rest_l2 attrS
  dsimp only
  rw [decide_eq_true (by omega),cond_true,ha,Option.bind_some,show (x.Kind == 6) = false from by simpa using hk,cond_false,app_ok (by simp; omega),Option.bind_some,Quote_ok _ (by omega),Option.bind_some,app_ok (by simp; omega),Option.bind_some]
  by_cases hv0 : a.Value = []
  ·rw [if_pos hv0,hv0,decide_eq_false (by simp),cond_false,app_ok (by simp; omega)]
   simp only [List.append_assoc,List.cons_append,List.nil_append,Option.bind_some]
  ·have : 0 < a.Value.length := by cases h : a.Value with
    | nil => exact absurd h hv0
    | cons => simp
   rw [if_neg hv0,decide_eq_true (by omega),cond_true,app_ok (by simp; omega),Option.bind_some,hex_ok _ _ (by simp; omega),Option.bind_some,app_ok (by simp only [List.length_append,List.length_cons,List.length_nil,hex_len]; omega)]
   simp only [List.append_assoc,List.cons_append,List.nil_append,Option.bind_some]
 ·intro b _
  unfold manifest_rest_l2
  dsimp only
  rw [decide_eq_false (by omega)]
  rfl
theorem attrs_none {x : TApiEntry} (hk : x.Kind = 6) (b : List UInt8) : loopO (fun s => manifest_rest_l2 x s.1 s.2) (b,0) = some b := by
 refine loop_end ?_
 show manifest_rest_l2 x b 0 = _
 unfold manifest_rest_l2
 by_cases h : 0 < x.Attrs.length
 ·rw [decide_eq_true (by omega),cond_true,List.getElem?_eq_getElem h,Option.bind_some,hk]
  rfl
 ·rw [decide_eq_false (by omega)]
  rfl
theorem rest_ok (b : List UInt8) {x : TApiEntry} (hs : EntrySmall x) (hb : b.length ≤ 900000000) : manifest_rest b x = some (b ++ restS x) := by
 have hd := hs.data
 have hl := dataS_len x.Data.length x.Data
 unfold manifest_rest restS
 by_cases k1 : x.Kind = 1
 ·rw [data_loop k1 x.Data.length b x.Data (Nat.le_refl _) (by omega),Option.bind_some,attrs_loop (by omega) hs _ (by rw [List.length_append]; omega),Option.bind_some,if_pos k1,if_neg (by omega),List.append_assoc]
 ·have e : loopO (fun s => manifest_rest_l1 x s.1 s.2) (b,x.Data) = some b := by
   refine loop_end ?_
   show manifest_rest_l1 x b x.Data = _
   unfold manifest_rest_l1
   rw [show (x.Kind == 1) = false from by simpa using k1]
   rfl
  rw [e,Option.bind_some,if_neg k1,List.nil_append]
  by_cases k6 : x.Kind = 6
  ·rw [attrs_none k6,if_pos k6,List.append_nil]; rfl
  ·rw [attrs_loop k6 hs _ (by omega),if_neg k6]; rfl
theorem restS_len {x : TApiEntry} (hs : EntrySmall x) : (restS x).length ≤ 1200000 := by
 have hd := hs.data
 have hl := dataS_len x.Data.length x.Data
 have ha := flat_len attrS 11000 x.Attrs (fun a h => attrS_len (hs.each a h))
 have := hs.attrs
 unfold restS
 rw [List.length_append]
 split <;> split <;> first | omega | (simp only [List.length_nil]; omega)
theorem lineS_len {x : TApiEntry} (h : RightP x) (hs : EntrySmall x) : (lineS x).length ≤ 40000 := by
 have n1 := numsS_len h
 have n2 := sizeS_len h
 have n3 := Qt_len x.Path
 have n4 := Qt_len x.Target
 have := hs.path
 have := hs.target
 unfold lineS linkS
 split <;> simp only [List.length_append,List.length_cons,List.length_nil] <;> omega
theorem tooLong_loop {x : TApiEntry} (hs : EntrySmall x) : loopO (fun s => manifest_tooLong_l1 x s.1 s.2) (1048576,0) = some (.inl ()) := by
 have key : ∀ k t (left : Int),x.Attrs.length - t = k → t ≤ x.Attrs.length → 5300 * ((x.Attrs.length - t : Nat) : Int) ≤ left → left ≤ 1048576 → loopO (fun s => manifest_tooLong_l1 x s.1 s.2) (left,t) = some (.inl ()) := by
  intro k
  induction k with
  | zero =>
   intro t left h1 h2 h3 h4
   refine loop_end ?_
   show manifest_tooLong_l1 x left t = _
   unfold manifest_tooLong_l1
   rw [decide_eq_false (by omega)]
   rfl
  | succ k ih =>
   intro t left h1 h2 h3 h4
   have hlt : t < x.Attrs.length := by omega
   have hx := List.getElem?_eq_getElem hlt
   have hsm := hs.each x.Attrs[t] (List.getElem_mem hlt)
   have hn := hsm.name
   have hv := hsm.value
   refine (loop_next (s' := (left - ((x.Attrs[t].Name.length : Int) + (x.Attrs[t].Value.length : Int)),t + 1)) ?_).trans (ih (t + 1) _ (by omega) (by omega) (by omega) (by omega))
   show manifest_tooLong_l1 x left t = _
   unfold manifest_tooLong_l1
   rw [decide_eq_true (by omega),cond_true,hx,Option.bind_some,decide_eq_false (by omega),cond_false,wI (x := left - (x.Attrs[t].Name.length : Int)) (by omega),decide_eq_false (by omega),cond_false,wI (x := (x.Attrs[t].Name.length : Int) + (x.Attrs[t].Value.length : Int)) (by omega),wI (by omega)]
 have := hs.attrs
 exact key x.Attrs.length 0 1048576 (by omega) (by omega) (by omega) (by omega)
theorem tooLong_ok {x : TApiEntry} (hs : EntrySmall x) : manifest_tooLong x = some false := by
 have h1 := tooLong_loop hs
 have h2 : loopO (fun s => manifest_tooLong_l2 x s.1 s.2) (1048576,0) = some (.inl ()) := h1
 have h4 : loopO (fun s => manifest_tooLong_l4 x s.1 s.2) (1048576,0) = some (.inl ()) := h1
 have hp := hs.path
 have ht := hs.target
 have hd := hs.data
 unfold manifest_tooLong
 rw [decide_eq_false (by omega),cond_false,h1,h2,h4,decide_eq_false (show ¬ (x.Data.length : Int) > 1048576 by omega),decide_eq_false (show ¬ (x.Target.length : Int) > 1048576 by omega)]
 have h3 : ∃ r,loopO (fun s => manifest_tooLong_l3 x) () = some r ∧ (r = .inl () ∨ r = .inr false) := by
  by_cases h : 0 < x.Attrs.length
  ·refine ⟨.inr false,loop_end ?_,.inr rfl⟩
   unfold manifest_tooLong_l3
   rw [decide_eq_true (by omega),cond_true,List.getElem?_eq_getElem h]
   rfl
  ·refine ⟨.inl (),loop_end ?_,.inl rfl⟩
   unfold manifest_tooLong_l3
   rw [decide_eq_false (by omega)]
   rfl
 obtain ⟨r,e,h3⟩ := h3
 rw [e]
 rcases h3 with rfl | rfl <;> cases (x.Kind == 1) <;> cases (x.Kind == 3) <;> cases (x.Kind == 6) <;> rfl
end Go.Proofs.YtebbaokcgnjfiaaDoor.F
