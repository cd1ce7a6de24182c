/- verp: strings.Cut at a plus sign; digest.Unbase32. -/
import Derived.Test.YtlegmhmmoadggaaDoorVpLocal
import Derived.Test.YtlegmhmmoadggaaDoorVpText
import Derived.Test.YtlegmhmmoadggaaDoorWrWalk4
namespace Go.Proofs.YtlegmhmmoadggaaDoor
open Go.RowKit Wr Vp
open Dg hiding bs bs_size bs_data
theorem cut43 (l : ByteArray) (w : World) (hE : VE w) (hl : l.size ≤ 1000000) :
    Calls Tryd.prog 14 #[.string l, .string ⟨#[43]⟩] w fun e w' => (∃ a b f, e = .returned (.tuple #[.string a, .string b, .bool f]) ∧
      Hid ((f = false ∧ cutAt 43 l.data.toList = none ∧ a = l ∧ b = ⟨#[]⟩) ∨ (f = true ∧ cutAt 43 l.data.toList = some (a.data.toList, b.data.toList)))) ∧ VE w' ∧ Below w.heap.size w w' := by
  obtain ⟨m, hm⟩ := hE.mx
  refine (Tryd.strings_Cut l ⟨#[43]⟩ m w (by omega) hm).mono ?_
  rintro e w' ⟨rfl, n, rfl⟩
  refine ⟨⟨_, _, _, rfl, ?_⟩, hE.drewN n, ⟨rfl, rfl, rfl, Nat.le_refl _, fun _ _ => rfl⟩⟩
  show _ ∨ _
  have e : Lib.cut l.data.toList (⟨#[43]⟩ : ByteArray).data.toList = match cutAt 43 l.data.toList with | some (h, t) => (h, t, true) | none => (l.data.toList, [], false) := cut_plus 43 _
  rw [e]
  cases cutAt 43 l.data.toList with
  | none => exact .inl ⟨rfl, rfl, rfl, rfl⟩
  | some p => exact .inr ⟨rfl, rfl⟩
theorem unb43 (l : ByteArray) (w : World) (hE : VE w) (hl : l.size ≤ 1000000) :
    Calls Tryd.prog 15 #[.string l] w fun e w' => (∃ a f, e = .returned (.tuple #[.string a, .bool f]) ∧ a.size ≤ l.size ∧
      Hid ((f = false ∧ unb32L l.data.toList = none) ∨ (f = true ∧ unb32L l.data.toList = some a.data.toList))) ∧ VE w' ∧ Below w.heap.size w w' := by
  refine (unb32_any l w hl).mono ?_
  rintro e w' ⟨rfl, hb⟩
  refine ⟨?_, hE.step hb, hb⟩
  unfold optS
  cases hu : unb32L l.data.toList with
  | none => exact ⟨_, _, rfl, Nat.zero_le _, .inl ⟨rfl, rfl⟩⟩
  | some d =>
    refine ⟨_, _, rfl, ?_, .inr ⟨rfl, rfl⟩⟩
    have h1 := b32L_len d
    rw [b32_unb _ _ hu, bs_len] at h1
    show d.length ≤ _
    omega
theorem Vp.parseC_of {secret s w bytes c : List UInt8} {κ : Int} (hk : kindOf w = κ) (h0 : κ ≠ 0) (hc : c = bytes.take (bytes.length - 5)) {n : Int} {u : List UInt8} {q : Wr.St} (hr : readC κ c = (n, u, q)) :
    parseC secret s w bytes = if rdone q && decide (localV secret κ c = s) then ⟨κ, n, u, true⟩ else .none := by
  unfold parseC rdone
  simp only
  rw [hk, if_neg h0, ← hc, hr]
theorem toList_no {a b : ByteArray} (h : ¬ a = b) : (a.toList == b.toList) = false := by
  rw [ByteArray.toList_eq, ByteArray.toList_eq]; exact beq_false_of_ne fun e => h (ByteArray.ext (Array.toList_inj.1 e))
/-- four results -/
theorem results_tmp4 {fn : Func} {t u v x : Tmp} (h : fn.results = #[.tmp t, .tmp u, .tmp v, .tmp x]) (tmps : Array Value) (P : Program) (w : World) :
    (results fn tmps).run P w = .ok (.tuple #[tmps.getD t undef, tmps.getD u undef, tmps.getD v undef, tmps.getD x undef]) w := by
  simp [results, h]
def outV (o : Out) : Value := .tuple #[.int .i64 o.kind, .int .i64 o.n, .string (bs o.user), .bool o.ok]
set_option maxRecDepth 100000 in
set_option maxHeartbeats 2000000 in
theorem parse_any (k s : ByteArray) (w : World) (hE : VE w) (hk : k.size ≤ 1000000) (hs : s.size ≤ 400000) :
    Calls Tryd.prog 7 #[.string k, .string s] w fun e w' => e = .returned (outV (parse k.data.toList s.data.toList)) ∧ Below w.heap.size w w' := by
  have HE := Lib.hid hE
  clear hE
  go_enter Tryd.func7, Tryd.ntmps7
  go_wp2_with fail
  refine (lower_any s w (by omega)).mono ?_
  rintro e w1 ⟨rfl, hb⟩
  have HB1 := Lib.hid hb
  have HE1 := Lib.hid (HE.out.step hb)
  clear hb
  have hll : (lower s.data.toList).length = s.size := by unfold lower; rw [List.length_map]; rfl
  obtain ⟨l, hl⟩ : ∃ x, x = Dg.bs (lower s.data.toList) := ⟨_, rfl⟩
  rw [← hl]
  have hls : l.size = s.size := by rw [hl, Dg.bs_size]; exact hll
  have HL : Hid (lower s.data.toList = l.data.toList) := by show _ = _; rw [hl]; rfl
  clear hl hll
  go_wp2_with fail
  refine (cut43 l w1 HE1.out (by omega)).mono ?_
  rintro e w2 ⟨⟨a, b, f, rfl, hcut⟩, he2, hb⟩
  have HB2 := Lib.hid (Bt HB1.out hb)
  have HE2 := Lib.hid he2
  clear hb he2
  have hbs : b.size ≤ 500000 := by
    rcases hcut.out with ⟨_, _, _, rfl⟩ | ⟨_, h⟩
    · show 0 ≤ _; omega
    · have h1 := congrArg List.length (cutAt_some h).1
      rw [List.length_append, List.length_cons, bs_len, bs_len, bs_len] at h1
      omega
  go_wp2_with fail
  refine (unb43 b w2 HE2.out (by omega)).mono ?_
  rintro e w3 ⟨⟨d, g, rfl, hds, hun⟩, he3, hb⟩
  have HB3 := Lib.hid (Bt HB2.out hb)
  have HE3 := Lib.hid he3
  clear hb he3
  by_cases hf : f = false
  · subst hf
    have HP : Hid (parse k.data.toList s.data.toList = .none) := by
      show _ = _
      rcases hcut.out with ⟨_, h, _⟩ | ⟨h, _⟩
      · unfold parse; rw [HL.out, h]
      · cases h
    clear hcut hun hds
    go_wp2
    ((try simp only [Exit.inBlock, Exit.then]); refine bodyPost_ret (results_tmp4 rfl _ _ _) rfl ?_)
    rw [HP.out]
    exact ⟨rfl, HB3.out⟩
  · have hf : f = true := by simpa using hf
    subst hf
    have HC : Hid (cutAt 43 l.data.toList = some (a.data.toList, b.data.toList)) := by
      rcases hcut.out with ⟨h, _⟩ | ⟨_, h⟩
      · cases h
      · exact h
    clear hcut
    by_cases hg : g = false
    · subst hg
      have HP : Hid (parse k.data.toList s.data.toList = .none) := by
        show _ = _
        rcases hun.out with ⟨_, h⟩ | ⟨h, _⟩
        · unfold parse; rw [HL.out, HC.out]; simp only; rw [h]
        · cases h
      clear hun hds
      go_wp2
      ((try simp only [Exit.inBlock, Exit.then]); refine bodyPost_ret (results_tmp4 rfl _ _ _) rfl ?_)
      rw [HP.out]
      exact ⟨rfl, HB3.out⟩
    · have hg : g = true := by simpa using hg
      subst hg
      have HU : Hid (unb32L b.data.toList = some d.data.toList) := by
        rcases hun.out with ⟨h, _⟩ | ⟨_, h⟩
        · cases h
        · exact h
      clear hun
      by_cases h5 : d.size < 5
      · have HP : Hid (parse k.data.toList s.data.toList = .none) := by
          show _ = _
          unfold parse; rw [HL.out, HC.out]; simp only; rw [HU.out]; simp only; rw [bs_len, if_pos h5]
        go_wp2
        ((try simp only [Exit.inBlock, Exit.then]); refine bodyPost_ret (results_tmp4 rfl _ _ _) rfl ?_)
        rw [HP.out]
        exact ⟨rfl, HB3.out⟩
      · have HP : Hid (parse k.data.toList s.data.toList = parseC k.data.toList l.data.toList a.data.toList d.data.toList) := by
          show _ = _
          unfold parse; rw [HL.out, HC.out]; simp only; rw [HU.out]; simp only; rw [bs_len, if_neg h5]
        obtain ⟨c, hc⟩ : ∃ c, c = d.extract 0 (d.size - 5) := ⟨_, rfl⟩
        have hcs : c.size ≤ 500000 := by rw [hc, ByteArray.size_extract]; omega
        have HCE : Hid (c.data.toList = d.data.toList.take (d.data.toList.length - 5)) := by
          show _ = _; rw [hc, bs_len]; simp
        have HCC := Lib.hid hc
        go_wp2_with fail
        rw [← hc]
        refine (open_any c w3).mono ?_
        rintro e w4 ⟨rfl, hrd, hb⟩
        have HB4 := Lib.hid (Bt HB3.out hb)
        have HE4 := Lib.hid (HE3.out.step hb)
        have hB0 : w.heap.size ≤ w3.heap.size := HB3.out.size
        have hN0 : NV ≤ w3.heap.size := HE3.out.lt
        have HR4 := Lib.hid hrd
        clear hb hrd hc
        obtain ⟨B, hB⟩ : ∃ B, B = w3.heap.size := ⟨_, rfl⟩
        rw [← hB] at HR4 hB0 hN0 ⊢
        clear hB
        have c1 := HE4.out.w1
        have c2 := HE4.out.w2
        have c3 := HE4.out.w3
        obtain ⟨W1, hW1⟩ : ∃ x, x = bs (word 1) := ⟨_, rfl⟩
        rw [← hW1] at c1
        have HW1 := Lib.hid hW1
        clear hW1
        obtain ⟨W2, hW2⟩ : ∃ x, x = bs (word 2) := ⟨_, rfl⟩
        rw [← hW2] at c2
        have HW2 := Lib.hid hW2
        clear hW2
        obtain ⟨W3, hW3⟩ : ∃ x, x = bs (word 3) := ⟨_, rfl⟩
        rw [← hW3] at c3
        have HW3 := Lib.hid hW3
        clear hW3
        by_cases k1 : a = W1
        · have HK : Hid (kindOf a.data.toList = 1) := by rw [k1, HW1.out]; exact kindOf_word (k := 1) (by omega)
          subst k1
          go_wp2_with fail
          refine (rdNum_any B ⟨c.data.toList, false⟩ w4 HR4.out HE4.out.env (by show c.data.toList.length ≤ _; rw [bs_len]; omega)).mono ?_
          rintro e w5 ⟨rfl, hr, hf⟩
          have HR5 := Lib.hid hr
          have HB5 := Lib.hid (HB4.out.trans (hf.below (B := w.heap.size) HB4.out.size (fun i hi (e : i = B) => by omega)))
          have HE5 := Lib.hid (HE4.out.below (hf.below (B := NV) HE4.out.lt (fun i hi (e : i = B) => by omega)) (Nat.le_refl _))
          clear hr hf
          obtain ⟨⟨n, q⟩, hq⟩ : ∃ p, p = rnum 59 0 ⟨c.data.toList, false⟩ := ⟨_, rfl⟩
          rw [← hq] at HR5 ⊢
          have HQ : Hid (readC 1 c.data.toList = (n, [], q)) := by
            show _ = _; unfold readC; rw [if_pos rfl, ← hq]
          clear hq
          have HPP : Hid (parse k.data.toList s.data.toList = if rdone q && decide (localV k.data.toList 1 c.data.toList = l.data.toList) then ⟨1, n, [], true⟩ else .none) :=
            HP.out.trans (parseC_of (κ := 1) HK.out (by decide) HCE.out HQ.out)
          clear HP HK HQ
          go_wp2_with fail
          refine (done_any B q w5 HR5.out).mono ?_
          rintro e wx ⟨rfl, hw⟩
          subst hw
          obtain ⟨dn, hdn⟩ : ∃ x, x = rdone q := ⟨_, rfl⟩
          rw [← hdn] at HPP ⊢
          clear hdn
          cases dn with
          | false =>
            go_wp2
            ((try simp only [Exit.inBlock, Exit.then]); refine bodyPost_ret (results_tmp4 rfl _ _ _) rfl ?_)
            rw [HPP.out]
            exact ⟨rfl, HB5.out⟩
          | true =>
            go_wp2_with fail
            refine (vlocal_any k 1 c w5 HE5.out hk (by omega) (by omega)).mono ?_
            rintro e wy ⟨rfl, hb⟩
            have HBy := Lib.hid (Bt HB5.out hb)
            clear hb
            obtain ⟨t, ht⟩ : ∃ x, x = bs (localV k.data.toList 1 c.data.toList) := ⟨_, rfl⟩
            rw [← ht]
            by_cases htl : t = l
            · have HPQ : Hid (parse k.data.toList s.data.toList = ⟨1, n, [], true⟩) := by
                show _ = _
                have e : localV k.data.toList 1 c.data.toList = l.data.toList := by rw [← htl, ht]
                rw [HPP.out, e, decide_eq_true rfl]; rfl
              clear HPP ht HL HC
              subst htl
              go_wp2
              ((try simp only [Exit.inBlock, Exit.then]); refine bodyPost_ret (results_tmp4 rfl _ _ _) rfl ?_)
              rw [HPQ.out]
              exact ⟨rfl, HBy.out⟩
            · have HPQ : Hid (parse k.data.toList s.data.toList = .none) := by
                show _ = _
                have e : ¬ localV k.data.toList 1 c.data.toList = l.data.toList := fun e => htl (by rw [ht, e])
                rw [HPP.out, decide_eq_false e]; rfl
              have ft : (t.toList == l.toList) = false := toList_no htl
              clear HPP ht
              go_wp2
              ((try simp only [Exit.inBlock, Exit.then]); refine bodyPost_ret (results_tmp4 rfl _ _ _) rfl ?_)
              rw [HPQ.out]
              exact ⟨rfl, HBy.out⟩
        · by_cases k2 : a = W2
          · have f1 : (a.toList == W1.toList) = false := toList_no k1
            have HK : Hid (kindOf a.data.toList = 2) := by rw [k2, HW2.out]; exact kindOf_word (k := 2) (by omega)
            subst k2
            go_wp2_with fail
            refine (rdNum_any B ⟨c.data.toList, false⟩ w4 HR4.out HE4.out.env (by show c.data.toList.length ≤ _; rw [bs_len]; omega)).mono ?_
            rintro e w5 ⟨rfl, hr, hf⟩
            have HR5 := Lib.hid hr
            have HB5 := Lib.hid (HB4.out.trans (hf.below (B := w.heap.size) HB4.out.size (fun i hi (e : i = B) => by omega)))
            have HE5 := Lib.hid (HE4.out.below (hf.below (B := NV) HE4.out.lt (fun i hi (e : i = B) => by omega)) (Nat.le_refl _))
            clear hr hf
            have hle : (rnum 59 0 ⟨c.data.toList, false⟩).2.rest.length ≤ c.size := by
              have := rnum_le 59 0 ⟨c.data.toList, false⟩
              rw [← bs_len c]; exact this
            obtain ⟨⟨n, p⟩, hp⟩ : ∃ p, p = rnum 59 0 ⟨c.data.toList, false⟩ := ⟨_, rfl⟩
            rw [← hp] at HR5 hle ⊢
            simp only at hle
            have HP0 := Lib.hid hp
            clear hp
            go_wp2_with fail
            refine (rdText_any B p w5 HR5.out HE5.out.env (by omega)).mono ?_
            rintro e w6 ⟨rfl, hr, hf⟩
            have HR6 := Lib.hid hr
            have HB6 := Lib.hid (HB5.out.trans (hf.below (B := w.heap.size) HB5.out.size (fun i hi (e : i = B) => by omega)))
            have HE6 := Lib.hid (HE5.out.below (hf.below (B := NV) HE5.out.lt (fun i hi (e : i = B) => by omega)) (Nat.le_refl _))
            clear hr hf
            obtain ⟨⟨u, q⟩, hq⟩ : ∃ x, x = rtext p := ⟨_, rfl⟩
            rw [← hq] at HR6 ⊢
            have HQ : Hid (readC 2 c.data.toList = (n, u, q)) := by
              show _ = _; unfold readC; rw [if_neg (by decide), if_pos rfl, ← HP0.out]; simp only; rw [← hq]
            clear hq hle
            have HPP : Hid (parse k.data.toList s.data.toList = if rdone q && decide (localV k.data.toList 2 c.data.toList = l.data.toList) then ⟨2, n, u, true⟩ else .none) :=
              HP.out.trans (parseC_of (κ := 2) HK.out (by decide) HCE.out HQ.out)
            clear HP HK HQ
            go_wp2_with fail
            refine (done_any B q w6 HR6.out).mono ?_
            rintro e wx ⟨rfl, hw⟩
            subst hw
            obtain ⟨dn, hdn⟩ : ∃ x, x = rdone q := ⟨_, rfl⟩
            rw [← hdn] at HPP ⊢
            clear hdn
            cases dn with
            | false =>
              go_wp2
              ((try simp only [Exit.inBlock, Exit.then]); refine bodyPost_ret (results_tmp4 rfl _ _ _) rfl ?_)
              rw [HPP.out]
              exact ⟨rfl, HB6.out⟩
            | true =>
              go_wp2_with fail
              refine (vlocal_any k 2 c w6 HE6.out hk (by omega) (by omega)).mono ?_
              rintro e wy ⟨rfl, hb⟩
              have HBy := Lib.hid (Bt HB6.out hb)
              clear hb
              obtain ⟨t, ht⟩ : ∃ x, x = bs (localV k.data.toList 2 c.data.toList) := ⟨_, rfl⟩
              rw [← ht]
              by_cases htl : t = l
              · have HPQ : Hid (parse k.data.toList s.data.toList = ⟨2, n, u, true⟩) := by
                  show _ = _
                  have e : localV k.data.toList 2 c.data.toList = l.data.toList := by rw [← htl, ht]
                  rw [HPP.out, e, decide_eq_true rfl]; rfl
                clear HPP ht HL HC
                subst htl
                go_wp2
                ((try simp only [Exit.inBlock, Exit.then]); refine bodyPost_ret (results_tmp4 rfl _ _ _) rfl ?_)
                rw [HPQ.out]
                exact ⟨rfl, HBy.out⟩
              · have HPQ : Hid (parse k.data.toList s.data.toList = .none) := by
                  show _ = _
                  have e : ¬ localV k.data.toList 2 c.data.toList = l.data.toList := fun e => htl (by rw [ht, e])
                  rw [HPP.out, decide_eq_false e]; rfl
                have ft : (t.toList == l.toList) = false := toList_no htl
                clear HPP ht
                go_wp2
                ((try simp only [Exit.inBlock, Exit.then]); refine bodyPost_ret (results_tmp4 rfl _ _ _) rfl ?_)
                rw [HPQ.out]
                exact ⟨rfl, HBy.out⟩
          · by_cases k3 : a = W3
            · have f1 : (a.toList == W1.toList) = false := toList_no k1
              have f2 : (a.toList == W2.toList) = false := toList_no k2
              have HK : Hid (kindOf a.data.toList = 3) := by rw [k3, HW3.out]; exact kindOf_word (k := 3) (by omega)
              subst k3
              go_wp2_with fail
              refine (rdText_any B ⟨c.data.toList, false⟩ w4 HR4.out HE4.out.env (by show c.data.toList.length ≤ _; rw [bs_len]; omega)).mono ?_
              rintro e w5 ⟨rfl, hr, hf⟩
              have HR5 := Lib.hid hr
              have HB5 := Lib.hid (HB4.out.trans (hf.below (B := w.heap.size) HB4.out.size (fun i hi (e : i = B) => by omega)))
              have HE5 := Lib.hid (HE4.out.below (hf.below (B := NV) HE4.out.lt (fun i hi (e : i = B) => by omega)) (Nat.le_refl _))
              clear hr hf
              obtain ⟨⟨u, q⟩, hq⟩ : ∃ p, p = rtext ⟨c.data.toList, false⟩ := ⟨_, rfl⟩
              rw [← hq] at HR5 ⊢
              have HQ : Hid (readC 3 c.data.toList = (0, u, q)) := by
                show _ = _; unfold readC; rw [if_neg (by decide), if_neg (by decide), ← hq]
              clear hq
              have HPP : Hid (parse k.data.toList s.data.toList = if rdone q && decide (localV k.data.toList 3 c.data.toList = l.data.toList) then ⟨3, 0, u, true⟩ else .none) :=
                HP.out.trans (parseC_of (κ := 3) HK.out (by decide) HCE.out HQ.out)
              clear HP HK HQ
              go_wp2_with fail
              refine (done_any B q w5 HR5.out).mono ?_
              rintro e wx ⟨rfl, hw⟩
              subst hw
              obtain ⟨dn, hdn⟩ : ∃ x, x = rdone q := ⟨_, rfl⟩
              rw [← hdn] at HPP ⊢
              clear hdn
              cases dn with
              | false =>
                go_wp2
                ((try simp only [Exit.inBlock, Exit.then]); refine bodyPost_ret (results_tmp4 rfl _ _ _) rfl ?_)
                rw [HPP.out]
                exact ⟨rfl, HB5.out⟩
              | true =>
                go_wp2_with fail
                refine (vlocal_any k 3 c w5 HE5.out hk (by omega) (by omega)).mono ?_
                rintro e wy ⟨rfl, hb⟩
                have HBy := Lib.hid (Bt HB5.out hb)
                clear hb
                obtain ⟨t, ht⟩ : ∃ x, x = bs (localV k.data.toList 3 c.data.toList) := ⟨_, rfl⟩
                rw [← ht]
                by_cases htl : t = l
                · have HPQ : Hid (parse k.data.toList s.data.toList = ⟨3, 0, u, true⟩) := by
                    show _ = _
                    have e : localV k.data.toList 3 c.data.toList = l.data.toList := by rw [← htl, ht]
                    rw [HPP.out, e, decide_eq_true rfl]; rfl
                  clear HPP ht HL HC
                  subst htl
                  go_wp2
                  ((try simp only [Exit.inBlock, Exit.then]); refine bodyPost_ret (results_tmp4 rfl _ _ _) rfl ?_)
                  rw [HPQ.out]
                  exact ⟨rfl, HBy.out⟩
                · have HPQ : Hid (parse k.data.toList s.data.toList = .none) := by
                    show _ = _
                    have e : ¬ localV k.data.toList 3 c.data.toList = l.data.toList := fun e => htl (by rw [ht, e])
                    rw [HPP.out, decide_eq_false e]; rfl
                  have ft : (t.toList == l.toList) = false := toList_no htl
                  clear HPP ht
                  go_wp2
                  ((try simp only [Exit.inBlock, Exit.then]); refine bodyPost_ret (results_tmp4 rfl _ _ _) rfl ?_)
                  rw [HPQ.out]
                  exact ⟨rfl, HBy.out⟩
            · have f1 : (a.toList == W1.toList) = false := toList_no k1
              have f2 : (a.toList == W2.toList) = false := toList_no k2
              have f3 : (a.toList == W3.toList) = false := toList_no k3
              have HPQ : Hid (parse k.data.toList s.data.toList = .none) := by
                show _ = _
                rw [HP.out]
                have hn : ∀ j : Int, ¬ a = bs (word j) → ¬ a.data.toList = word j := fun j h e => h (by rw [← e])
                have e : kindOf a.data.toList = 0 := by unfold kindOf; rw [if_neg (hn 1 (by rw [← HW1.out]; exact k1)), if_neg (hn 2 (by rw [← HW2.out]; exact k2)), if_neg (hn 3 (by rw [← HW3.out]; exact k3))]
                unfold parseC; simp only; rw [e]; rfl
              clear HP
              go_wp2
              ((try simp only [Exit.inBlock, Exit.then]); refine bodyPost_ret (results_tmp4 rfl _ _ _) rfl ?_)
              rw [HPQ.out]
              exact ⟨rfl, HB4.out⟩
end Go.Proofs.YtlegmhmmoadggaaDoor
