/- The strong tests to the bases 2, 7 and 61 are exact below 2^32: plain Lean, no program in sight. -/
import Derived.Test.YtcnkddoipmaddaaMrD
namespace Go.Proofs.Ytcnkddoipmaddaa.Mr
/-! ### a prime above 65536 -/
/-- the product of the primes among lo, lo + 2, .. (2 ^ f of them) that are above 255 -/
def tree (f : Nat) : Nat → Nat := Nat.rec (motive := fun _ => Nat → Nat) (fun lo => cond (Nat.beq (Nat.gcd lo Z2) 1) lo 1) (fun f ih lo => force (ih lo) fun a => force (Nat.add lo (Nat.shiftLeft 2 f)) fun lo2 => force (ih lo2) fun b => Nat.mul a b) f
theorem tree_succ (f lo : Nat) : tree (f + 1) lo = tree f lo * tree f (lo + 2 * 2 ^ f) := by
  have h : tree (f + 1) lo = force (tree f lo) fun a => force (Nat.add lo (Nat.shiftLeft 2 f)) fun lo2 => force (tree f lo2) fun b => Nat.mul a b := rfl
  rw [h, force_eq, force_eq, force_eq]
  have e : Nat.shiftLeft 2 f = 2 * 2 ^ f := by show 2 <<< f = _; rw [Nat.shiftLeft_eq]
  rw [e]
  rfl
theorem tree_dvd {q : Nat} (hq : Pr q) : ∀ f lo, q ∣ tree f lo → q < lo + 2 * 2 ^ f ∨ False := by
  intro f
  induction f with
  | zero =>
    intro lo h
    left
    have h' : q ∣ cond (Nat.beq (Nat.gcd lo Z2) 1) lo 1 := h
    have hq1 := hq.1
    cases hb : Nat.beq (Nat.gcd lo Z2) 1
    · rw [hb] at h'
      have h5 : q ∣ 1 := h'
      have := Nat.le_of_dvd (by omega) h5
      omega
    · rw [hb] at h'
      have h6 : q ∣ lo := h'
      rcases Nat.eq_zero_or_pos lo with h0 | h0
      · subst h0
        rw [Nat.gcd_zero_left] at hb
        exact absurd (Nat.eq_of_beq_eq_true hb) (by decide)
      · have := Nat.le_of_dvd h0 h6
        omega
  | succ f ih =>
    intro lo h
    rw [tree_succ] at h
    have hp : 2 ^ (f + 1) = 2 * 2 ^ f := by rw [Nat.pow_succ]; omega
    rcases hq.dvd_mul h with h1 | h1
    · rcases ih lo h1 with h2 | h2
      · left; omega
      · exact h2.elim
    · rcases ih _ h1 with h2 | h2
      · left; omega
      · exact h2.elim
theorem tree_mem {q : Nat} (hq : Nat.gcd q Z2 = 1) : ∀ f lo, lo ≤ q → q < lo + 2 * 2 ^ f → (q - lo) % 2 = 0 → q ∣ tree f lo := by
  intro f
  induction f with
  | zero =>
    intro lo h1 h2 h3
    obtain rfl : q = lo := by omega
    show q ∣ cond (Nat.beq (Nat.gcd q Z2) 1) q 1
    rw [hq]
    exact Nat.dvd_refl q
  | succ f ih =>
    intro lo h1 h2 h3
    rw [tree_succ]
    have hp : 2 ^ (f + 1) = 2 * 2 ^ f := by rw [Nat.pow_succ]; omega
    rcases Nat.lt_or_ge q (lo + 2 * 2 ^ f) with h4 | h4
    · exact Nat.dvd_trans (ih lo h1 h4 h3) (Nat.dvd_mul_right _ _)
    · exact Nat.dvd_trans (ih _ h4 (by omega) (by omega)) (Nat.dvd_mul_left _ _)
/-- the product of all primes below 65536 -/
def Zp : Nat := Nat.mul Z2 (tree 15 1)
theorem Zp_dvd {q : Nat} (hq : Pr q) (h : q ∣ Zp) : q < 65536 + 1 := by
  have h' : q ∣ Z2 * tree 15 1 := h
  rcases hq.dvd_mul h' with h1 | h1
  · have := prime_dvd_Z2 hq h1; omega
  · rcases tree_dvd hq 15 1 h1 with h2 | h2
    · omega
    · exact h2.elim
theorem Zp_mem {q : Nat} (hq : Pr q) (h : q < 65536) : q ∣ Zp := by
  show q ∣ Z2 * tree 15 1
  rcases Nat.lt_or_ge q 256 with h1 | h1
  · exact Nat.dvd_trans (sps_Z2 (mem_sps hq h1)) (Nat.dvd_mul_right _ _)
  · have hg : Nat.gcd q Z2 = 1 := hq.coprime fun hd => by have := prime_dvd_Z2 hq hd; omega
    have hodd : q % 2 = 1 := by
      rcases Nat.mod_two_eq_zero_or_one q with h2 | h2
      · rcases hq.2 2 (Nat.dvd_of_mod_eq_zero h2) with h3 | h3 <;> omega
      · exact h2
    exact Nat.dvd_trans (tree_mem hg 15 1 (by omega) (by omega) (by omega)) (Nat.dvd_mul_left _ _)
def strip (Z fuel : Nat) : Nat → Nat := Nat.rec (motive := fun _ => Nat → Nat) (fun r => r) (fun _ ih r => force (Nat.gcd r Z) fun g => cond (Nat.beq g 1) r (force (Nat.div r g) ih)) fuel
theorem strip_dvd {q Z : Nat} (hq : Pr q) (hZ : ¬ q ∣ Z) : ∀ fuel r, 0 < r → q ∣ r → q ∣ strip Z fuel r ∧ 0 < strip Z fuel r := by
  intro fuel
  induction fuel with
  | zero => intro r h0 h; exact ⟨h, h0⟩
  | succ f ih =>
    intro r h0 h
    have e : strip Z (f + 1) r = cond (Nat.beq (Nat.gcd r Z) 1) r (strip Z f (r / Nat.gcd r Z)) := by
      have h : strip Z (f + 1) r = force (Nat.gcd r Z) fun g => cond (Nat.beq g 1) r (force (Nat.div r g) (strip Z f)) := rfl
      rw [h, force_eq, force_eq]
      rfl
    rw [e]
    cases Nat.beq (Nat.gcd r Z) 1
    · obtain ⟨c, hc⟩ := Nat.gcd_dvd_left r Z
      have hg : 0 < Nat.gcd r Z := Nat.gcd_pos_of_pos_left _ h0
      have e2 : r / Nat.gcd r Z = c := by
        conv => lhs; arg 1; rw [hc]
        exact Nat.mul_div_cancel_left _ hg
      have hc0 : 0 < c := by
        rcases Nat.eq_zero_or_pos c with h1 | h1
        · rw [h1, Nat.mul_zero] at hc; omega
        · exact h1
      show q ∣ strip Z f (r / Nat.gcd r Z) ∧ _
      rw [e2]
      refine ih c hc0 ?_
      rw [hc] at h
      rcases hq.dvd_mul h with h1 | h1
      · exact absurd (Nat.dvd_trans h1 (Nat.gcd_dvd_right _ _)) hZ
      · exact h1
    · exact ⟨h, h0⟩
def bigs : List (Nat × Nat) := [(76129, 114193), (65881, 72469), (68881, 206641), (74257, 148513), (75289, 94111), (78121, 156241), (66041, 118873), (85201, 149101), (72469, 92233), (71443, 95257), (96233, 144349), (99793, 498961), (91801, 110161), (113017, 197779), (80263, 229321), (80761, 181711), (110503, 245561), (93739, 187477)]
def okp (k p : Nat) : Bool := force (Nat.mul p k) fun n => cond (Nat.ble n NM) (leaf n) true
noncomputable def chkA (Z k : Nat) : Bool :=
  force (Nat.pred k) fun e => force (Nat.gcd (Nat.gcd (Nat.pred (Nat.pow 2 e)) (Nat.pred (Nat.pow 7 e))) (Nat.pred (Nat.pow 61 e))) fun G => force (strip Z 40 G) fun R =>
    cond (Nat.beq R 1) true (cond (Nat.beq (Nat.gcd R Z) 1) (cond (Nat.ble R NM) (okp k R)
      (List.rec (motive := fun _ => Bool) false (fun x _ ih => cond (Nat.beq R (Nat.mul x.1 x.2)) (Nat.ble x.1 NM && Nat.ble x.2 NM && okp k x.1 && okp k x.2) ih) bigs)) false)
/-- whatever has no prime below 65536 and is less than 2^32 is a prime -/
theorem pr_of_coprime2 {r : Nat} (h2 : 2 ≤ r) (h : r ≤ NM) (hg : ∀ q, Pr q → q ∣ r → 65536 ≤ q) : Pr r := by
  obtain ⟨q, hq, c, hc⟩ := exists_prime_dvd r h2
  have hq1 := hg q hq ⟨c, hc⟩
  rcases Nat.lt_or_ge c 2 with hc2 | hc2
  · have : c = 1 := by
      rcases Nat.eq_zero_or_pos c with h0 | h0
      · subst h0; omega
      · omega
    subst this
    rw [Nat.mul_one] at hc
    rw [hc]
    exact hq
  · obtain ⟨q2, hq2, hq3⟩ := exists_prime_dvd c hc2
    have h5 := hg q2 hq2 (Nat.dvd_trans hq3 ⟨q, by rw [hc, Nat.mul_comm]⟩)
    have h6 := Nat.le_of_dvd (by omega) hq3
    have : 65536 * 65536 ≤ q * c := Nat.mul_le_mul hq1 (by omega)
    unfold NM at h
    omega
theorem okp_ok {k p : Nat} (h : okp k p = true) (hp : 2 < p) (hpo : p % 2 = 1) (hk : 0 < k) (hko : k % 2 = 1) (hle : p * k ≤ NM) : ¬ SP3 (p * k) := by
  unfold okp at h
  rw [force_eq] at h
  have h' : cond (Nat.ble (p * k) NM) (leaf (p * k)) true = true := h
  rw [show Nat.ble (p * k) NM = true from Nat.ble_eq.mpr hle] at h'
  exact leaf_ok (Nat.lt_of_lt_of_le hp (Nat.le_mul_of_pos_right p hk)) (by rw [Nat.mul_mod, hpo, hko]) h'
theorem U.dvd_pred {p a e : Nat} (h : U p a e) : p ∣ a ^ e - 1 := dvd_sub_of_mod h.symm
theorem bigs_ok {k R p : Nat} (hp : Pr p) (hpR : p ∣ R) (hR : ∀ q, Pr q → q ∣ R → 65536 ≤ q) (hk : 0 < k) (hko : k % 2 = 1) (hle : p * k ≤ NM) (hR2 : 2 ≤ R) : ∀ l : List (Nat × Nat),
    List.rec (motive := fun _ => Bool) false (fun x _ ih => cond (Nat.beq R (Nat.mul x.1 x.2)) (Nat.ble x.1 NM && Nat.ble x.2 NM && okp k x.1 && okp k x.2) ih) l = true → ¬ SP3 (p * k)
  | [], h => by cases h
  | x :: l, h => by
    have h' : cond (Nat.beq R (x.1 * x.2)) (Nat.ble x.1 NM && Nat.ble x.2 NM && okp k x.1 && okp k x.2) (List.rec (motive := fun _ => Bool) false (fun x _ ih => cond (Nat.beq R (Nat.mul x.1 x.2)) (Nat.ble x.1 NM && Nat.ble x.2 NM && okp k x.1 && okp k x.2) ih) l) = true := h
    cases hb : Nat.beq R (x.1 * x.2)
    · rw [hb] at h'
      exact bigs_ok hp hpR hR hk hko hle hR2 l h'
    · rw [hb] at h'
      have hRx := Nat.eq_of_beq_eq_true hb
      have h2 : (Nat.ble x.1 NM && Nat.ble x.2 NM && okp k x.1 && okp k x.2) = true := h'
      simp only [Bool.and_eq_true] at h2
      obtain ⟨⟨⟨b1, b2⟩, b3⟩, b4⟩ := h2
      have hp65 := hR p hp hpR
      have hodd : p % 2 = 1 := by
        rcases Nat.mod_two_eq_zero_or_one p with h2 | h2
        · rcases hp.2 2 (Nat.dvd_of_mod_eq_zero h2) with h3 | h3 <;> omega
        · exact h2
      rw [hRx] at hpR
      have key : ∀ y z, x.1 * x.2 = y * z → y ≤ NM → p ∣ y → p = y := fun y z hyz hy hpy => by
        have hy2 : 2 ≤ y := by
          rcases Nat.lt_or_ge y 2 with h0 | h0
          · have : y = 0 ∨ y = 1 := by omega
            rcases this with h1 | h1
            · rw [h1, Nat.zero_mul] at hyz; omega
            · rw [h1] at hpy; have := Nat.le_of_dvd (by omega) hpy; omega
          · exact h0
        have hpr := pr_of_coprime2 hy2 hy fun q hq hqy => hR q hq (by rw [hRx, hyz]; exact Nat.dvd_trans hqy (Nat.dvd_mul_right _ _))
        rcases hpr.2 p hpy with h1 | h1
        · omega
        · exact h1
      rcases hp.dvd_mul hpR with h3 | h3
      · have := key x.1 x.2 rfl (Nat.le_of_ble_eq_true b1) h3
        rw [← this] at b3
        exact okp_ok b3 (by omega) hodd hk hko hle
      · have := key x.2 x.1 (Nat.mul_comm _ _) (Nat.le_of_ble_eq_true b2) h3
        rw [← this] at b4
        exact okp_ok b4 (by omega) hodd hk hko hle
theorem chkA_ok {k p : Nat} (h : chkA Zp k = true) (hp : Pr p) (hp65 : 65536 < p) (hk : 1 < k) (hko : k % 2 = 1) (hle : p * k ≤ NM) : ¬ SP3 (p * k) := by
  intro hs
  unfold chkA at h
  rw [force_eq, force_eq, force_eq] at h
  have hu0 := (hs.U3 (Nat.le_trans hp.1 (Nat.le_mul_of_pos_right p (by omega)))).sub (Nat.dvd_mul_right p k)
  have e1 : p * k - 1 = (p - 1) * k + (k - 1) := by
    obtain ⟨q, rfl⟩ : ∃ q, p = q + 1 := ⟨p - 1, by omega⟩
    rw [Nat.add_mul]
    simp
    omega
  have hf : ∀ a, 0 < a → a < 65536 → U p a ((p - 1) * k) := fun a h0 h1 => U.mul (flt hp fun hd => by have := Nat.le_of_dvd h0 hd; omega) k
  rw [e1] at hu0
  have hu : U3 p (k - 1) := U3.of_add ⟨hf 2 (by omega) (by omega), hf 7 (by omega) (by omega), hf 61 (by omega) (by omega)⟩ hu0
  obtain ⟨G, hG⟩ : ∃ G, Nat.gcd (Nat.gcd (Nat.pred (Nat.pow 2 (Nat.pred k))) (Nat.pred (Nat.pow 7 (Nat.pred k)))) (Nat.pred (Nat.pow 61 (Nat.pred k))) = G := ⟨_, rfl⟩
  rw [hG] at h
  have hpG : p ∣ G := by
    rw [← hG]
    exact Nat.dvd_gcd (Nat.dvd_gcd hu.1.dvd_pred hu.2.1.dvd_pred) hu.2.2.dvd_pred
  have hG0 : 0 < G := by
    rw [← hG]
    refine Nat.gcd_pos_of_pos_left _ (Nat.gcd_pos_of_pos_left _ ?_)
    have : 2 ^ 1 ≤ 2 ^ (k - 1) := Nat.pow_le_pow_right (by omega) (by omega)
    show 0 < 2 ^ (k - 1) - 1
    omega
  have hZ : ¬ p ∣ Zp := fun hd => by have := Zp_dvd hp hd; omega
  obtain ⟨hR, hR0⟩ := strip_dvd hp hZ 40 G hG0 hpG
  generalize strip Zp 40 G = R at h hR hR0
  have hpR := Nat.le_of_dvd hR0 hR
  have c1 : Nat.beq R 1 = false := by
    cases hb : Nat.beq R 1
    · rfl
    · have := Nat.eq_of_beq_eq_true hb; omega
  rw [c1] at h
  cases c2 : Nat.beq (Nat.gcd R Zp) 1
  · rw [c2] at h; cases h
  rw [c2] at h
  have hcop := Nat.eq_of_beq_eq_true c2
  have hRq : ∀ q, Pr q → q ∣ R → 65536 ≤ q := fun q hq hqR => by
    rcases Nat.lt_or_ge q 65536 with h3 | h3
    · have := Nat.dvd_gcd hqR (Zp_mem hq h3)
      rw [hcop] at this
      have := Nat.le_of_dvd (by omega) this
      have := hq.1
      omega
    · exact h3
  have hodd : p % 2 = 1 := by
    rcases Nat.mod_two_eq_zero_or_one p with h2 | h2
    · rcases hp.2 2 (Nat.dvd_of_mod_eq_zero h2) with h3 | h3 <;> omega
    · exact h2
  cases c3 : Nat.ble R NM
  · rw [c3] at h
    exact bigs_ok hp hR hRq (by omega) hko hle (by omega) bigs h hs
  · rw [c3] at h
    have hpr := pr_of_coprime2 (by omega) (Nat.le_of_ble_eq_true c3) hRq
    rcases hpr.2 p hR with h1 | h1
    · omega
    · rw [h1] at hs hle hodd
      exact okp_ok h (by omega) hodd (by omega) hko hle hs
noncomputable def loopA (Z c : Nat) : Nat → Bool := Nat.rec (motive := fun _ => Nat → Bool) (fun _ => true) (fun _ ih k => force k fun k => cond (chkA Z k) (ih (Nat.add k 2)) false) c
noncomputable def partA (c k : Nat) : Bool := force Zp fun Z => loopA Z c k
theorem loopA_ok {Z : Nat} : ∀ c k, loopA Z c k = true → ∀ i, i < c → chkA Z (k + 2 * i) = true := by
  intro c
  induction c with
  | zero => intro k _ i hi; omega
  | succ c ih =>
    intro k h i hi
    have h' : cond (chkA Z k) (loopA Z c (k + 2)) false = true := by
      have : loopA Z (c + 1) k = force k fun k => cond (chkA Z k) (loopA Z c (Nat.add k 2)) false := rfl
      rw [this, force_eq] at h
      exact h
    cases hl : chkA Z k
    · rw [hl] at h'; cases h'
    · rw [hl] at h'
      cases i with
      | zero => exact hl
      | succ i =>
        have := ih (k + 2) h' i (by omega)
        rw [show k + 2 * (i + 1) = k + 2 + 2 * i by omega]
        exact this
theorem partA_ok {c k : Nat} (h : partA c k = true) : ∀ i, i < c → chkA Zp (k + 2 * i) = true := by
  unfold partA at h
  rw [force_eq] at h
  exact loopA_ok c k h
end Go.Proofs.Ytcnkddoipmaddaa.Mr
